/- By an AI agent. Part of the proof: an abstract machine over the model, an evaluator over it, and contracts. Texts: EvS, EvU, EvV, EvW. -/
import Derived.Test.YtldbohhdpbmdcaaGreatDoorP06
import Derived.Lib.Strings
import Derived.Defers

namespace Go.Abs

section
variable {P : Program} {C : CallF}

theorem execOp_congr {mode : Nat} {op : Op} {g g' : Env} (hh : Agree g g' op) (H : HT) (n low : Nat) (K : KV) : execOp P C mode op g' H n low K = execOp P C mode op g H n low K := by
  have he : evalOp P op g' (gh H) = evalOp P op g (gh H) := evalOp_congr op hh _
  have hm : evalM P mode op g' (gh H) = evalM P mode op g (gh H) := by
    unfold evalM
    rw [evalOp_congr op hh, evalOp_congr op hh]
  unfold Agree at hh
  cases op with
  | move x => simp only [execOp]; rw [hh x (by simp [Op.operands])]
  | assign x => simp only [execOp]; rw [hh x (by simp [Op.operands])]
  | makeMap t r => rfl
  | mapUpdate t m k v => simp only [execOp]; rw [hh m (by simp [Op.operands]), hh k (by simp [Op.operands]), hh v (by simp [Op.operands])]
  | range t x => simp only [execOp]; rw [hh x (by simp [Op.operands])]
  | next x s => simp only [execOp]; rw [hh x (by simp [Op.operands])]
  | store t a v => simp only [execOp]; rw [hh a (by simp [Op.operands]), hh v (by simp [Op.operands])]
  | alloc t => rfl
  | box t x => simp only [execOp]; rw [hh x (by simp [Op.operands])]
  | buildSlice t len ps =>
    simp only [execOp]
    rw [pairs_congr ps fun p hp => hh _ (by simp [Op.operands]; exact ⟨p.1, by simpa using hp⟩)]
  | makeSlice t l c => simp only [execOp]; rw [hh l (by simp [Op.operands]), hh c (by simp [Op.operands])]
  | load t a => simp only [execOp]; rw [hm]
  | lookup t m q ok => simp only [execOp]; rw [hm]
  | binOp o t x y t' =>
    simp only [execOp]
    rw [he, hh x (by simp [Op.operands])]
  | call c =>
    obtain ⟨cal, args, types⟩ := c
    cases cal with
    | builtin b =>
      have hargs : ∀ x ∈ args.toList, ev g' x = ev g x := fun x hx => hh x (by simp [Op.operands, Call.operands]; simpa using hx)
      cases b <;> first
        | (simp only [execOp]; done)
        | (simp only [execOp]; rw [he]; done)
        | (simp only [execOp]
           split
           · rename_i x t ha _; rw [hargs x (by simp [ha])]
           · rfl)
        | (simp only [execOp]
           split
           · rename_i x y t u ha _; rw [hargs x (by simp [ha]), hargs y (by simp [ha])]
           · rfl)
    | value f =>
      simp only [execOp]
      rw [hh f (by simp [Op.operands, Call.operands]), map_congr args fun x hx => hh x (by simp [Op.operands, Call.operands]; right; simpa using hx)]
    | invoke r m => rfl
  | _ => first
    | (simp only [execOp]; done)
    | (simp only [execOp]; rw [he])

end

section
variable {R : Type}

theorem kV_ok {a : AV} {K : Value → Option R} {r : R} (e : kV a K = some r) : ∃ x, a = .v x ∧ K x = some r := by
  cases a <;> first | (cases e; done) | exact ⟨_, rfl, e⟩
theorem kI_ok {a : AV} {K : Int → Option R} {r : R} (e : kI a K = some r) : ∃ n, a = int n ∧ K n = some r := by
  obtain ⟨x, rfl, e1⟩ := kV_ok e
  clear e
  unfold vI at e1
  split at e1
  · rename_i k n
    cases k <;> first | (cases e1; done) | exact ⟨n, rfl, e1⟩
  · cases e1
theorem kB_ok {a : AV} {K : Bool → Option R} {r : R} (e : kB a K = some r) : ∃ n, a = bool n ∧ K n = some r := by
  obtain ⟨x, rfl, e1⟩ := kV_ok e
  clear e
  unfold vB at e1
  split at e1
  · exact ⟨_, rfl, e1⟩
  · cases e1

theorem blt_dec (m k : Nat) : Nat.blt m k = decide (m < k) := by
  cases h : Nat.blt m k with
  | true => exact (decide_eq_true (blt_lt h)).symm
  | false =>
    refine (decide_eq_false fun hlt => ?_).symm
    have : Nat.blt m k = true := Nat.ble_eq_true_of_le hlt
    rw [this] at h; cases h
theorem beq_dec (m k : Nat) : Nat.beq m k = decide (m = k) := by
  by_cases h : m = k
  · subst h; simp
  · rw [beq_false h]; simp [h]

theorem ltI_eq (a b : Int) : ltI a b = decide (a < b) := by
  cases a with
  | ofNat m => cases b with
    | ofNat k => show Nat.blt m k = _; rw [blt_dec]; simp
    | negSucc k => show false = _; exact (decide_eq_false (by rw [Int.negSucc_eq]; simp; omega)).symm
  | negSucc m => cases b with
    | ofNat k => show true = _; exact (decide_eq_true (by rw [Int.negSucc_eq]; simp; omega)).symm
    | negSucc k =>
      show Nat.blt k m = _
      rw [blt_dec]
      congr 1
      simp only [Int.negSucc_eq, eq_iff_iff]
      omega
theorem eqI_eq (a b : Int) : eqI a b = (a == b) := by
  have key : eqI a b = decide (a = b) := by
    cases a with
    | ofNat m => cases b with
      | ofNat k => show Nat.beq m k = _; rw [beq_dec]; congr 1; simp only [Int.ofNat_eq_natCast, eq_iff_iff]; omega
      | negSucc k => show false = _; exact (decide_eq_false (by simp)).symm
    | negSucc m => cases b with
      | ofNat k => show false = _; exact (decide_eq_false (by simp)).symm
      | negSucc k =>
        have : eqI (Int.negSucc m) (Int.negSucc k) = Nat.beq m k := rfl
        rw [this, beq_dec]; congr 1; simp only [Int.negSucc_eq, eq_iff_iff]; omega
  rw [key]
  by_cases h : a = b <;> simp [h]

theorem gB_ok {b : Bool} {x : Option R} {r : R} (e : gB b x = some r) : b = true ∧ x = some r := by
  cases b with
  | false => cases e
  | true => exact ⟨rfl, e⟩
theorem z0_ok {k : Nat} {x : Option R} {r : R} (e : z0 k x = some r) : k = 0 ∧ x = some r := by
  cases k with
  | zero => exact ⟨rfl, e⟩
  | succ k => cases e
theorem hK_ok {H : HT} {id : Nat} {K : Nat → List (List AV) → Option R} {r : R} (e : hK H id K = some r) : ∃ s es, gh H id = some (.row s es) ∧ K s es = some r := by
  unfold hK at e
  split at e
  · rename_i o ho
    split at e
    · exact ⟨_, _, ho, e⟩
    · cases e
  · cases e

theorem getD_of {α : Type} {l : List α} {i : Nat} {d a : α} (h : l[i]? = some a) : l.getD i d = a := by simp [List.getD_eq_getElem?_getD, h]

theorem ldK_ok {a : AV} {H : HT} {K : AV → Option R} {r : R} (e : ldK a H K = some r) : ∃ v, eLoad false 1 a (gh H) = some v ∧ K v = some r := by
  cases a <;> first | (cases e; done) | skip
  · rename_i cs off
    obtain ⟨v, h1, h2⟩ := nthK_ok (l := cs) (i := off) (K := K) e
    have := (List.getElem?_eq_some_iff.1 h1).1
    refine ⟨v, ?_, h2⟩
    simp only [eLoad, cellsAt, ePart]
    rw [if_pos (by omega)]
    simp only [if_true]
    rw [lget, getD_of h1]
  · rename_i sz id i off
    have e' : hK H id (fun s es => gB (Nat.beq sz s) (nthK es i fun cs => nthK cs off K)) = some r := e
    obtain ⟨s, es, h1, h2⟩ := hK_ok e'
    obtain ⟨h3, h4⟩ := gB_ok h2
    obtain ⟨cs, h5, h6⟩ := nthK_ok h4
    obtain ⟨v, h7, h8⟩ := nthK_ok h6
    have l1 := (List.getElem?_eq_some_iff.1 h5).1
    have l2 := (List.getElem?_eq_some_iff.1 h7).1
    refine ⟨v, ?_, h8⟩
    simp only [eLoad, cellsAt, h1]
    rw [if_pos ⟨Nat.eq_of_beq_eq_true h3, l1⟩]
    simp only [eget, getD_of h5, ePart]
    rw [if_pos (by omega)]
    simp only [if_true]
    rw [lget, getD_of h7]

theorem dropL_ok {K : List AV → Option R} {r : R} : ∀ {n : Nat} {l : List AV}, dropL n l K = some r → n ≤ l.length ∧ K (l.drop n) = some r := by
  intro n
  induction n with
  | zero => intro l e; exact ⟨Nat.zero_le _, e⟩
  | succ n ih =>
    intro l e
    cases l with
    | nil => cases e
    | cons b t => obtain ⟨h1, h2⟩ := ih (l := t) e; exact ⟨by simpa using h1, h2⟩
theorem takeL_ok {r : R} : ∀ {n : Nat} {l : List AV} {K : List AV → Option R}, takeL n l K = some r → n ≤ l.length ∧ K (l.take n) = some r := by
  intro n
  induction n with
  | zero => intro l K e; exact ⟨Nat.zero_le _, e⟩
  | succ n ih =>
    intro l K e
    cases l with
    | nil => cases e
    | cons b t => obtain ⟨h1, h2⟩ := ih (l := t) (K := fun r => K (b :: r)) e; exact ⟨by simpa using h1, h2⟩
theorem paK_ok {n : Nat} {cs : List AV} {off : Nat} {K : AV → Option R} {r : R} (e : paK n cs off K = some r) : ∃ v, ePart true n cs off = some v ∧ K v = some r := by
  obtain ⟨h1, h2⟩ := dropL_ok (K := fun cs => takeL n cs fun cs => K (.agg cs)) e
  obtain ⟨h3, h4⟩ := takeL_ok h2
  refine ⟨_, ?_, h4⟩
  unfold ePart
  rw [if_pos (by simp at h3; omega)]

theorem laK_ok {n : Nat} {a : AV} {H : HT} {K : AV → Option R} {r : R} (e : laK n a H K = some r) : ∃ v, eLoad true n a (gh H) = some v ∧ K v = some r := by
  cases a <;> first | (cases e; done) | skip
  · rename_i cs off
    exact paK_ok (show paK n cs off K = some r from e)
  · rename_i sz id i off
    obtain ⟨s, es, h1, h2⟩ := hK_ok (show hK H id (fun s es => gB (Nat.beq sz s) (nthK es i fun cs => paK n cs off K)) = some r from e)
    obtain ⟨h3, h4⟩ := gB_ok h2
    obtain ⟨cs, h5, h6⟩ := nthK_ok h4
    obtain ⟨v, h7, h8⟩ := paK_ok h6
    have l1 := (List.getElem?_eq_some_iff.1 h5).1
    refine ⟨v, ?_, h8⟩
    simp only [eLoad, cellsAt, h1]
    rw [if_pos ⟨Nat.eq_of_beq_eq_true h3, l1⟩]
    simp only [eget, getD_of h5]
    exact h7

theorem faK_ok {off : Nat} {a : AV} {K : AV → Option R} {r : R} (e : faK off a K = some r) : ∃ v, eFA off a = some v ∧ K v = some r := by
  cases a <;> first | (cases e; done) | skip
  · rename_i cs o
    have e' : fnat (Nat.add o off) (fun o => K (.iptr cs o)) = some r := e
    rw [fnat_eq] at e'
    exact ⟨_, rfl, e'⟩
  · rename_i sz id i o
    have e' : fnat (Nat.add o off) (fun o => K (.ptr sz id i o)) = some r := e
    rw [fnat_eq] at e'
    exact ⟨_, rfl, e'⟩

theorem ixK_ok {esz : Nat} {a : AV} {i : Int} {K : AV → Option R} {r : R} (e : ixK esz a i K = some r) : ∃ v, eIxS esz a (int i) = some v ∧ K v = some r := by
  cases i with
  | negSucc m => cases e
  | ofNat m =>
    have e0 : kSl a (fun _ => none) (fun sz es => gB (Nat.beq sz esz) (nthK es m fun cs => K (.iptr cs 0))) (fun sz id j len => gB (Nat.beq sz esz && Nat.blt m len) (fnat (Nat.add j m) fun q => K (.ptr sz id q 0))) = some r := e
    cases a <;> first | (cases e0; done) | skip
    · rename_i sz es
      have e' : gB (Nat.beq sz esz) (nthK es m fun cs => K (.iptr cs 0)) = some r := e0
      obtain ⟨h1, h2⟩ := gB_ok e'
      obtain ⟨cs, h3, h4⟩ := nthK_ok h2
      have l1 := (List.getElem?_eq_some_iff.1 h3).1
      refine ⟨_, ?_, h4⟩
      simp only [eIxS]
      rw [if_pos ⟨by simp, by simpa using l1, Nat.eq_of_beq_eq_true h1⟩]
      simp [eget, h3]
    · rename_i sz id j len
      have e' : gB (Nat.beq sz esz && Nat.blt m len) (fnat (Nat.add j m) fun q => K (.ptr sz id q 0)) = some r := e0
      obtain ⟨h1, h2⟩ := gB_ok e'
      rw [fnat_eq] at h2
      simp only [Bool.and_eq_true] at h1
      refine ⟨_, ?_, h2⟩
      simp only [eIxS]
      rw [if_pos ⟨by simp, by simpa using blt_lt h1.2, Nat.eq_of_beq_eq_true h1.1⟩]
      rfl

theorem lnK_ok {a : AV} {K : AV → Option R} {r : R} (e : lnK a K = some r) : ∃ v, eLen a = some v ∧ K v = some r := by
  cases a <;> first | (cases e; done) | skip
  · rename_i x
    have e' : lnV x K = some r := e
    unfold lnV at e'
    split at e'
    · split at e'
      · exact ⟨_, rfl, e'⟩
      · cases e'
    · cases e'
  · rename_i sz es
    have e' : fnat es.length (fun n => K (.v (.int .i64 (.ofNat n)))) = some r := e
    rw [fnat_eq] at e'
    exact ⟨_, rfl, e'⟩
  · exact ⟨_, rfl, e⟩

theorem lsV_ok {x : Value} {K : AV → Option R} {r : R} (e : lsV x K = some r) : ∃ v, eLenStr (.v x) = some v ∧ K v = some r := by
  unfold lsV at e
  split at e
  · rw [fnat_eq] at e; exact ⟨_, rfl, e⟩
  · cases e

theorem exK_ok {k : Nat} {a : AV} {K : AV → Option R} {r : R} (e : exK k a K = some r) : ∃ v, eExtract k a = some v ∧ K v = some r := by
  unfold exK at e
  split at e
  · obtain ⟨v, h1, h2⟩ := nthK_ok e
    exact ⟨v, h1, h2⟩
  · cases e

theorem addI_eq (a b : Int) (K : Int → Option R) : addI a b K = K (IntKind.i64.wrap (a + b)) := by
  cases a with
  | negSucc m => show fint _ K = _; rw [fint_eq]
  | ofNat m => cases b with
    | negSucc k => show fint _ K = _; rw [fint_eq]
    | ofNat k =>
      show @Bool.rec (fun _ => Option R) (fint _ K) (fnat (Nat.add m k) fun s => K (.ofNat s)) (Nat.blt (Nat.add m k) 9223372036854775808) = _
      cases hb : Nat.blt (Nat.add m k) 9223372036854775808 with
      | false => show fint _ K = _; rw [fint_eq]
      | true =>
        show fnat _ _ = _
        rw [fnat_eq]
        have hlt : m + k < 9223372036854775808 := blt_lt hb
        have : IntKind.i64.wrap (Int.ofNat m + Int.ofNat k) = Int.ofNat (Nat.add m k) := by
          rw [wrap_small (by simp; omega) (by simp; omega)]; rfl
        rw [this]

end

section
variable {P : Program} {C : CallF}

theorem pB_eq (b : Bool) (S : List AV) (E : ET) (H : HT) (n low : Nat) (K : KS) : pB b S E H n low K = K (.v (.bool b) :: S) E H n low := by cases b <;> rfl

theorem cmI_eq {o : BinOp} {c : Cm} (hc : cmOf o = some c) (a b : Int) (bt : Bool) : eBin o bt (int a) (int b) = some (bool (cmI c a b)) := by
  have hd : ∀ x : Bool, (!x) = decide (x = false) := fun x => by cases x <;> rfl
  cases o <;> cases hc
  · show some (bool (a == b)) = some (bool (eqI a b)); rw [eqI_eq]
  · show some (bool (a != b)) = some (bool !(eqI a b)); rw [eqI_eq]; rfl
  · show some (bool (decide (a < b))) = some (bool (ltI a b)); rw [ltI_eq]
  · show some (bool (decide (a ≤ b))) = some (bool !(ltI b a)); rw [ltI_eq, ← decide_not]; congr 3; simp [Int.not_lt]
  · show some (bool (decide (a > b))) = some (bool (ltI b a)); rw [ltI_eq]
  · show some (bool (decide (a ≥ b))) = some (bool !(ltI a b)); rw [ltI_eq, ← decide_not]; congr 3; simp [Int.not_lt]

theorem fnat_bind {α : Type} {n : Nat} {K : Nat → Option α} {i : α} (h : fnat n K = some i) : K n = some i := by rwa [fnat_eq] at h

/-- A compiled operation does what the operation does. -/
theorem sV_ok {R : Type} {K : List UInt8 → Option R} {x : Value} {r : R} (e : sV K x = some r) : ∃ l, x = .string ⟨⟨l⟩⟩ ∧ K l = some r := by
  unfold sV at e
  split at e
  · exact ⟨_, rfl, e⟩
  · cases e
theorem dropK_ok {R : Type} {K : List UInt8 → Option R} {r : R} : ∀ {n : Nat} {l : List UInt8}, dropK n l K = some r → n ≤ l.length ∧ K (l.drop n) = some r := by
  intro n
  induction n with
  | zero => intro l e; exact ⟨Nat.zero_le _, e⟩
  | succ n ih =>
    intro l e
    cases l with
    | nil => cases e
    | cons b t => obtain ⟨h1, h2⟩ := ih (l := t) e; exact ⟨by simpa using h1, h2⟩
theorem takeK_ok {R : Type} {r : R} : ∀ {n : Nat} {l : List UInt8} {K : List UInt8 → Option R}, takeK n l K = some r → n ≤ l.length ∧ K (l.take n) = some r := by
  intro n
  induction n with
  | zero => intro l K e; exact ⟨Nat.zero_le _, e⟩
  | succ n ih =>
    intro l K e
    cases l with
    | nil => cases e
    | cons b t => obtain ⟨h1, h2⟩ := ih (l := t) (K := fun r => K (b :: r)) e; exact ⟨by simpa using h1, h2⟩
theorem iN_ok {R : Type} {i : Int} {K : Nat → Option R} {r : R} (e : iN i K = some r) : ∃ q : Nat, i = .ofNat q ∧ K q = some r := by
  cases i with
  | ofNat q => exact ⟨q, rfl, e⟩
  | negSucc q => cases e
theorem eqBs_eq (a b : List UInt8) : (a == b) = eqBs a b := by
  induction a generalizing b with
  | nil => cases b <;> rfl
  | cons x a ih =>
    cases b with
    | nil => rfl
    | cons y b =>
      rw [List.cons_beq_cons, ih]
      have : (x == y) = Nat.beq x.toNat y.toNat := by
        rw [Bool.eq_iff_iff]
        simp [UInt8.toNat_inj]
      rw [this]
      rfl
theorem opOo_ok {α : Type} {V : Nat} {σ : Sig} {S : List AV} {E : ET} {g : Env} (L : Locs V σ S E g) {x : Option Operand} {K : Option O → Option α} {i : α} (h : opOo V σ S.length x K = some i) :
    ∃ o, K o = some i ∧ (x = none → o = none) ∧ ∀ y, x = some y → ∃ q, o = some q ∧ ∀ {R : Type} {K' : AV → Option R} {r : R}, gO q S E K' = some r → K' (ev g y) = some r := by
  cases x with
  | none => exact ⟨none, h, fun _ => rfl, fun y e => by cases e⟩
  | some x =>
    obtain ⟨o, h1, h2⟩ := opO_ok (K := fun o => K (some o)) L h
    exact ⟨some o, h1, fun e => (by cases e), fun y e => by cases e; exact ⟨o, rfl, h2⟩⟩
theorem oN_ok {g : Env} {S : List AV} {E : ET} {x : Option Operand} {o : Option O} (h : (x = none → o = none) ∧ ∀ y, x = some y → ∃ q, o = some q ∧ ∀ {R : Type} {K' : AV → Option R} {r : R}, gO q S E K' = some r → K' (ev g y) = some r)
    {K : Nat → RR} {r : AV × HT × Nat × Nat} (e : oN 0 o S E K = some r) : ∃ p, oInt 0 (x.map (ev g)) = some p ∧ K p = some r := by
  cases x with
  | none => obtain rfl := h.1 rfl; exact ⟨0, rfl, e⟩
  | some x =>
    obtain ⟨q, rfl, hq⟩ := h.2 x rfl
    have e1 := hq (K' := fun v => kI v fun i => iN i K) e
    obtain ⟨m, hm, e2⟩ := kI_ok e1
    obtain ⟨p, rfl, e3⟩ := iN_ok e2
    exact ⟨p, by simp only [Option.map_some, hm]; rfl, e3⟩

theorem compOp_ok {V : Nat} {σ : Sig} {S : List AV} {E : ET} {g : Env} (L : Locs V σ S E g) {mode : Nat} {op : Op} {i : Ins} (hc : compOp P V σ S.length mode op = some i) {H : HT} {n low : Nat} {K : KS}
    {r : AV × HT × Nat × Nat} (e : runI P C i S E H n low K = some r) : execOp P C mode op g H n low (fun v H n low => K (v :: S) E H n low) = some r := by
  have gen : compGen V σ S.length mode op = some i → execOp P C mode op g H n low (fun v H n low => K (v :: S) E H n low) = some r := by
    intro hg
    unfold compGen at hg
    obtain ⟨os, h1, h2⟩ := tmpOs_ok L hg
    cases h1
    obtain ⟨vs, h3, h4, _⟩ := h2 (K' := fun vs => execOp P C mode op (lEnv vs) H n low fun v H n low => K (v :: S) E H n low) e
    rw [← h3]
    exact (execOp_congr (g := g) (g' := lEnv vs) (fun x hx => h4 x (by simpa using hx)) H n low _).symm
  cases op <;> first
    | exact gen hc
    | skip
  case binOp o t x y t' =>
    simp only [compOp] at hc
    split at hc
    · split at hc
      · obtain ⟨ox, h1, h2⟩ := opO_ok L hc
        obtain ⟨oy, h3, h4⟩ := opO_ok L h1
        cases h3
        have e1 := h2 (K' := fun a => gO oy S E fun b => kI a fun a => kI b fun b => addI a b fun s => K (.v (.int .i64 s) :: S) E H n low) e
        have e2 := h4 e1
        obtain ⟨a, ha, e3⟩ := kI_ok e2
        obtain ⟨b, hb, e4⟩ := kI_ok e3
        rw [addI_eq] at e4
        have ea : ∀ bt, eBin .add bt (int a) (int b) = some (int (IntKind.i64.wrap (a + b))) := fun _ => rfl
        simp only [execOp, evalOp, ha, hb, ea]
        rw [fD_eq]
        exact e4
      · split at hc
        · rename_i c hcm
          obtain ⟨ox, h1, h2⟩ := opO_ok L hc
          obtain ⟨oy, h3, h4⟩ := opO_ok L h1
          cases h3
          have e1 := h2 (K' := fun a => gO oy S E fun b => kI a fun a => kI b fun b => pB (cmI c a b) S E H n low K) e
          have e2 := h4 e1
          obtain ⟨a, ha, e3⟩ := kI_ok e2
          obtain ⟨b, hb, e4⟩ := kI_ok e3
          rw [pB_eq] at e4
          simp only [execOp, evalOp, ha, hb, cmI_eq hcm]
          rw [fD_eq]
          exact e4
        · exact gen hc
    · split at hc
      · rename_i htt
        obtain ⟨ox, h1, h2⟩ := opO_ok L hc
        obtain ⟨oy, h3, h4⟩ := opO_ok L h1
        cases h3
        have e1 := h2 (K' := fun a => gO oy S E fun b => kV a (sV fun l => kV b (sV fun m => pB (eqBs l m) S E H n low K))) e
        have e2 := h4 e1
        obtain ⟨xv, hx, e3⟩ := kV_ok e2
        obtain ⟨l, rfl, e4⟩ := sV_ok e3
        obtain ⟨yv, hy, e5⟩ := kV_ok e4
        obtain ⟨m, rfl, e6⟩ := sV_ok e5
        rw [pB_eq] at e6
        have ea : ∀ bt, eBin .eql bt (.v (.string ⟨⟨l⟩⟩)) (.v (.string ⟨⟨m⟩⟩)) = some (bool (eqBs l m)) := fun bt => by
          show some (bool ((⟨⟨l⟩⟩ : ByteArray).toList == (⟨⟨m⟩⟩ : ByteArray).toList)) = _
          rw [Lib.toList_data, Lib.toList_data, eqBs_eq]
        simp only [execOp, evalOp, hx, hy, ea]
        rw [fD_eq]
        exact e6
      · rename_i htt
        obtain ⟨ox, h1, h2⟩ := opO_ok L hc
        obtain ⟨oy, h3, h4⟩ := opO_ok L h1
        cases h3
        have e1 := h2 (K' := fun a => gO oy S E fun b => kV a (sV fun l => kV b (sV fun m => pB (!(eqBs l m)) S E H n low K))) e
        have e2 := h4 e1
        obtain ⟨xv, hx, e3⟩ := kV_ok e2
        obtain ⟨l, rfl, e4⟩ := sV_ok e3
        obtain ⟨yv, hy, e5⟩ := kV_ok e4
        obtain ⟨m, rfl, e6⟩ := sV_ok e5
        rw [pB_eq] at e6
        have ea : ∀ bt, eBin .neq bt (.v (.string ⟨⟨l⟩⟩)) (.v (.string ⟨⟨m⟩⟩)) = some (bool !(eqBs l m)) := fun bt => by
          show some (bool !((⟨⟨l⟩⟩ : ByteArray).toList == (⟨⟨m⟩⟩ : ByteArray).toList)) = _
          rw [Lib.toList_data, Lib.toList_data, eqBs_eq]
        simp only [execOp, evalOp, hx, hy, ea]
        rw [fD_eq]
        exact e6
      · exact gen hc
    · exact gen hc
  case slice t x lo hi mx =>
    cases mx with
    | some m => exact gen hc
    | none =>
      simp only [compOp] at hc
      split at hc
      · rename_i ht
        obtain ⟨ox, h1, h2⟩ := opO_ok L hc
        obtain ⟨olo, h3, h4⟩ := opOo_ok L h1
        obtain ⟨ohi, h5, h6⟩ := opOo_ok L h3
        cases h5
        have e1 := h2 (K' := fun a => kV a (sV fun l => oN 0 olo S E fun p => dropK p l fun l =>
          @Option.rec O (fun _ => RR) (K (.v (.string ⟨⟨l⟩⟩) :: S) E H n low) (fun o => gO o S E fun v => kI v fun i => iN i fun q => gB (Nat.ble p q) (takeK (Nat.sub q p) l fun l => K (.v (.string ⟨⟨l⟩⟩) :: S) E H n low)) ohi)) e
        obtain ⟨xv, hx, e2⟩ := kV_ok e1
        obtain ⟨l, rfl, e3⟩ := sV_ok e2
        obtain ⟨p, hp, e4⟩ := oN_ok h4 e3
        obtain ⟨hpl, e5⟩ := dropK_ok e4
        simp only [execOp, evalOp, ht, hx]
        have fin : ∀ q, oInt l.length (hi.map (ev g)) = some q → p ≤ q → q ≤ l.length → K (.v (.string ⟨⟨(l.drop p).take (q - p)⟩⟩) :: S) E H n low = some r →
            (match eSlice none (.v (.string ⟨⟨l⟩⟩)) (lo.map (ev g)) (hi.map (ev g)) with
              | some v => fD v fun v => K (v :: S) E H n low
              | none => none) = some r := by
          intro q hq h1 h2 hk
          have hs : (⟨⟨l⟩⟩ : ByteArray).size = l.length := rfl
          have hex : (⟨⟨l⟩⟩ : ByteArray).extract p q = ⟨⟨(l.drop p).take (q - p)⟩⟩ := by
            apply ByteArray.ext
            apply Array.ext'
            simp [ByteArray.data_extract]
          simp only [eSlice, hp, hs, hq]
          rw [if_pos ⟨h1, h2⟩, hex]
          simp only [fD_eq]
          exact hk
        cases hi with
        | none =>
          obtain rfl := h6.1 rfl
          refine fin l.length rfl hpl (Nat.le_refl _) ?_
          rw [List.take_of_length_le (by simp)]
          exact e5
        | some hi =>
          obtain ⟨o, rfl, h7⟩ := h6.2 hi rfl
          have e6 := h7 (K' := fun v => kI v fun i => iN i fun q => gB (Nat.ble p q) (takeK (Nat.sub q p) (l.drop p) fun l => K (.v (.string ⟨⟨l⟩⟩) :: S) E H n low)) e5
          obtain ⟨m, hm, e7⟩ := kI_ok e6
          obtain ⟨q, rfl, e8⟩ := iN_ok e7
          obtain ⟨hb, e9⟩ := gB_ok e8
          obtain ⟨hq, e10⟩ := takeK_ok e9
          have hpq := Nat.le_of_ble_eq_true hb
          have hqs : Nat.sub q p = q - p := rfl
          rw [hqs] at hq e10
          refine fin q ?_ hpq ?_ e10
          · simp only [Option.map_some, hm]
            rfl
          · simp at hq; omega
      · exact gen hc
  case index t x i =>
    simp only [compOp] at hc
    split at hc
    · rename_i ht
      obtain ⟨ox, h1, h2⟩ := opO_ok L hc
      obtain ⟨oi, h3, h4⟩ := opO_ok L h1
      cases h3
      have e1 := h2 (K' := fun a => gO oi S E fun b => kV a (sV fun l => kI b fun i => iN i fun i => nthK l i fun c => fnat c.toNat fun c => K (.v (.int .u8 (.ofNat c)) :: S) E H n low)) e
      have e2 := h4 e1
      obtain ⟨xv, hx, e3⟩ := kV_ok e2
      obtain ⟨l, rfl, e4⟩ := sV_ok e3
      obtain ⟨m, hm, e5⟩ := kI_ok e4
      obtain ⟨q, rfl, e6⟩ := iN_ok e5
      obtain ⟨c, hcq, e7⟩ := nthK_ok e6
      rw [fnat_eq] at e7
      obtain ⟨hlt, hget⟩ := List.getElem?_eq_some_iff.1 hcq
      have hs : (⟨⟨l⟩⟩ : ByteArray).size = l.length := rfl
      simp only [execOp, evalOp, ht, hx, hm, eIdxStr]
      have hcond : (0 : Int) ≤ .ofNat q ∧ (Int.ofNat q).toNat < (⟨⟨l⟩⟩ : ByteArray).size := ⟨Int.natCast_nonneg q, hlt⟩
      rw [dif_pos hcond]
      have hv : (((⟨⟨l⟩⟩ : ByteArray)[(Int.ofNat q).toNat]'hcond.2).toNat : Int) = .ofNat c.toNat := by
        rw [← hget]; rfl
      rw [hv]
      simp only [fD_eq]
      exact e7
    · exact gen hc
  case unOp o t x =>
    cases o with
    | not =>
      simp only [compOp] at hc
      obtain ⟨ox, h1, h2⟩ := opO_ok L hc
      cases h1
      have e1 := h2 (K' := fun a => kB a fun b => pB (!b) S E H n low K) e
      obtain ⟨b, hb, e2⟩ := kB_ok e1
      rw [pB_eq] at e2
      have ea : eUn .not (bool b) = some (bool !b) := rfl
      simp only [execOp, evalOp, hb, ea]
      rw [fD_eq]
      exact e2
    | _ => exact gen hc
  case pick c a b =>
    simp only [compOp] at hc
    obtain ⟨oc, h1, h2⟩ := opO_ok L hc
    obtain ⟨oa, h3, h4⟩ := opO_ok L h1
    obtain ⟨ob, h5, h6⟩ := opO_ok L h3
    cases h5
    have e1 := h2 (K' := fun c => kB c fun b => @Bool.rec (fun _ => RR) (gO ob S E fun v => K (v :: S) E H n low) (gO oa S E fun v => K (v :: S) E H n low) b) e
    obtain ⟨t, ht, e2⟩ := kB_ok e1
    simp only [execOp, evalOp, ht]
    cases t with
    | true =>
      have := h4 (K' := fun v => K (v :: S) E H n low) e2
      show fS (ev g a) _ = _
      rw [fS_eq]; exact this
    | false =>
      have := h6 (K' := fun v => K (v :: S) E H n low) e2
      show fS (ev g b) _ = _
      rw [fS_eq]; exact this
  case load t a =>
    simp only [compOp] at hc
    split at hc
    · rename_i inf ht hi
      obtain ⟨oa, h1, h2⟩ := opO_ok L hc
      cases h1
      have e1 := h2 (K' := fun a => ldK a H fun v => K (v :: S) E H n low) e
      obtain ⟨v, hv, e2⟩ := ldK_ok e1
      have h0 : evalM P 0 (.load t a) g (gh H) = evalOp P (.load t a) g (gh H) := rfl
      have hev : evalM P 0 (.load t a) g (gh H) = some v := by
        rw [h0]
        simp only [evalOp, ht, hi]
        simpa using hv
      simp only [execOp, hev]
      rw [fD_eq]; exact e2
    · rename_i inf ht hi
      have hc := fnat_bind hc
      obtain ⟨oa, h1, h2⟩ := opO_ok L hc
      cases h1
      have e1 := h2 (K' := fun a => laK inf.size a H fun v => K (v :: S) E H n low) e
      obtain ⟨v, hv, e2⟩ := laK_ok e1
      have h0 : evalM P 0 (.load t a) g (gh H) = evalOp P (.load t a) g (gh H) := rfl
      have hev : evalM P 0 (.load t a) g (gh H) = some v := by
        rw [h0]
        simp only [evalOp, ht, hi, tSize]
        simpa using hv
      simp only [execOp, hev]
      rw [fD_eq]; exact e2
    · exact gen hc
  case fieldAddr s x f =>
    simp only [compOp] at hc
    split at hc
    · rename_i off ho
      have hc := fnat_bind hc
      obtain ⟨ox, h1, h2⟩ := opO_ok L hc
      cases h1
      have e1 := h2 (K' := fun a => faK off a fun v => K (v :: S) E H n low) e
      obtain ⟨v, hv, e2⟩ := faK_ok e1
      simp only [execOp, evalOp, ho, hv]
      rw [fD_eq]; exact e2
    · cases hc
  case indexAddr t x i =>
    simp only [compOp] at hc
    split at hc
    · rename_i el ht
      split at hc
      · rename_i inf hi
        have hc := fnat_bind hc
        obtain ⟨ox, h1, h2⟩ := opO_ok L hc
        obtain ⟨oi, h3, h4⟩ := opO_ok L h1
        cases h3
        have e1 := h2 (K' := fun a => gO oi S E fun b => kI b fun i => ixK inf.size a i fun v => K (v :: S) E H n low) e
        have e2 := h4 e1
        obtain ⟨m, hm, e3⟩ := kI_ok e2
        obtain ⟨v, hv, e4⟩ := ixK_ok e3
        simp only [execOp, evalOp, ht, hi, hm, tSize]
        simp only [Option.isSome_some, if_true, hv]
        rw [fD_eq]; exact e4
      · cases hc
    · exact gen hc
  case extract t k =>
    simp only [compOp] at hc
    obtain ⟨ox, h1, h2⟩ := opO_ok L hc
    cases h1
    have e1 := h2 (K' := fun a => exK k a fun v => K (v :: S) E H n low) e
    obtain ⟨v, hv, e2⟩ := exK_ok e1
    simp only [execOp, evalOp, hv]
    rw [fS_eq]; exact e2
  case store t a v =>
    simp only [compOp] at hc
    split at hc
    · rename_i inf hi
      have hc := fnat_bind hc
      obtain ⟨oa, h1, h2⟩ := opO_ok L hc
      obtain ⟨ov, h3, h4⟩ := opO_ok L h1
      cases h3
      have e1 := h2 (K' := fun a => gO ov S E fun v => eStoreK inf.size a v H n low fun v H n low => K (v :: S) E H n low) e
      have e2 := h4 e1
      simp only [execOp, hi, tSize]
      exact e2
    · cases hc
  case alloc t =>
    simp only [compOp] at hc
    split at hc
    · rename_i z hz
      rw [fSp_eq] at hc
      have hc := fnat_bind hc
      cases hc
      simp only [execOp, hz]
      rw [fnat_eq]
      exact e
    · cases hc
  case box t x =>
    simp only [compOp] at hc
    split at hc
    · obtain ⟨ox, h1, h2⟩ := opO_ok L hc
      cases h1
      have e1 := h2 (K' := fun a => bxK (cellsOf a) H n low fun v H n low => K (v :: S) E H n low) e
      simp only [execOp]
      cases hcs : cellsOf (ev g x) with
      | nil => rw [hcs] at e1; cases e1
      | cons c cs => rw [hcs] at e1; exact e1
    · exact gen hc
  case call c =>
    obtain ⟨cal, args, types⟩ := c
    cases cal with
    | invoke rr m => exact gen hc
    | value f =>
      cases f with
      | func f =>
        simp only [compOp] at hc
        split at hc
        · obtain ⟨os, h1, h2⟩ := opOs_ok L hc
          cases h1
          have e1 := h2 (K' := fun as => C f as H n low fun v H n low => K (v :: S) E H n low) e
          have hcal : callee (ev g (.func f)) (args.toList.map (ev g)) = some (f, args.toList.map (ev g)) := by simp [ev, callee]
          simp only [execOp, hcal]
          rw [fL_eq]
          exact e1
        · exact gen hc
      | _ => exact gen hc
    | builtin b =>
      cases b <;> first
        | exact gen hc
        | skip
      · simp only [compOp] at hc
        split at hc
        · rename_i x y t u ha ht
          split at hc
          · rename_i sz bytes hap
            rw [fnat_eq, fnat_eq] at hc
            obtain ⟨ox, h1, h2⟩ := opO_ok L hc
            obtain ⟨oy, h3, h4⟩ := opO_ok L h1
            cases h3
            have e1 := h2 (K' := fun a => gO oy S E fun v => appendK sz bytes a v H n low fun v H n low => K (v :: S) E H n low) e
            have e2 := h4 e1
            simp only [execOp, ha, ht, hap]
            exact e2
          · cases hc
        · cases hc
      · simp only [compOp] at hc
        split at hc
        · rename_i x t ha ht
          split at hc
          · rename_i el hu
            obtain ⟨ox, h1, h2⟩ := opO_ok L hc
            cases h1
            have e1 := h2 (K' := fun a => lnK a fun v => K (v :: S) E H n low) e
            obtain ⟨v, hv, e2⟩ := lnK_ok e1
            simp only [execOp, evalOp, ha, ht, hu, hv]
            rw [fD_eq]; exact e2
          · rename_i hu
            obtain ⟨ox, h1, h2⟩ := opO_ok L hc
            cases h1
            have e1 := h2 (K' := fun a => kV a fun x => lsV x fun v => K (v :: S) E H n low) e
            obtain ⟨y, hy, e2⟩ := kV_ok e1
            obtain ⟨v, hv, e3⟩ := lsV_ok e2
            simp only [execOp, evalOp, ha, ht, hu, hy, hv]
            rw [fD_eq]; exact e3
          · cases hc
        · cases hc

end
end Go.Abs

namespace Go.Abs

section
variable {P : Program} {C : CallF} {b : Base} {r : AV × HT × Nat × Nat}

theorem look_cons (V : Nat) (p : Nat × Lc) (σ : Sig) (j : Nat) : look V (p :: σ) j = if p.1 = j then some p.2 else look V σ j := by
  show (bif Nat.beq p.1 j then some p.2 else look V σ j) = _
  by_cases h : p.1 = j
  · rw [h, beq_self, if_pos rfl]; rfl
  · rw [beq_false h, if_neg h]; rfl

theorem look_nil {V j : Nat} {l : Lc} (h : look V [] j = some l) : l = .sl j ∧ inV V j = true := by
  have h' : (bif inV V j then some (Lc.sl j) else none) = some l := h
  cases hv : inV V j <;> rw [hv] at h'
  · cases h'
  · cases h'; exact ⟨rfl, rfl⟩

theorem alias_ok {V : Nat} {σ : Sig} {d : Nat} (ha : alias σ d = false) {j q : Nat} (h : look V σ j = some (.sl q)) (hj : j ≠ d) : q ≠ d := by
  induction σ with
  | nil => have := (look_nil h).1; cases this; exact hj
  | cons p σ ih =>
    rw [look_cons] at h
    have ha' : (match p.2 with
      | .sl q => bif Nat.beq q d && not (Nat.beq p.1 d) then true else alias σ d
      | _ => alias σ d) = false := ha
    by_cases hp : p.1 = j
    · rw [if_pos hp] at h
      cases h' : p.2 with
      | sl q' =>
        rw [h'] at h ha'
        cases h
        simp only at ha'
        intro e
        subst e
        have : Nat.beq p.1 q = false := beq_false (by rw [hp]; exact hj)
        rw [this, beq_self] at ha'
        cases ha'
      | lv m => rw [h'] at h; cases h
      | c v => rw [h'] at h; cases h
    · rw [if_neg hp] at h
      refine ih ?_ h
      cases h' : p.2 with
      | sl q' =>
        rw [h'] at ha'
        simp only at ha'
        cases hc : (Nat.beq q' d && not (Nat.beq p.1 d)) <;> rw [hc] at ha'
        · exact ha'
        · cases ha'
      | lv m => rw [h'] at ha'; exact ha'
      | c v => rw [h'] at ha'; exact ha'

theorem locV_push {l : Lc} {S : List AV} {E : ET} {u v : AV} (h : locV l S E = some v) : locV l (u :: S) E = some v := by
  cases l with
  | lv m =>
    simp only [locV] at h ⊢
    have hm := (List.getElem?_eq_some_iff.1 h).1
    rw [List.reverse_cons, List.getElem?_append_left hm]; exact h
  | sl q => exact h
  | c x => exact h

theorem Locs.push {V : Nat} {σ : Sig} {S : List AV} {E : ET} {g : Env} (L : Locs V σ S E g) (u : AV) : Locs V σ (u :: S) E g := ⟨fun j l h => locV_push (L.at_ j l h), L.fr⟩

theorem locV_top (S : List AV) (E : ET) (v : AV) : locV (.lv S.length) (v :: S) E = some v := by
  simp only [locV, List.reverse_cons]
  rw [List.getElem?_append_right (by simp)]
  simp

theorem rOps_cons (o : CO) (l : List CO) (S : List AV) (E : ET) (H : HT) (n low : Nat) (K : KS) : rOps P C (o :: l) S E H n low K = runO P C o S E H n low fun S E H n low => rOps P C l S E H n low K := rfl

theorem put_at (g : Env) (d j : Nat) (v : AV) : Abs.put g (some d) v j = if j = d then v else g j := by
  show (bif Nat.beq j d then v else g j) = _
  by_cases h : j = d
  · subst h; rw [beq_self, if_pos rfl]; rfl
  · rw [beq_false h, if_neg h]; rfl

theorem lay_ok {α : Type} {V : Nat} {σ : Sig} {ht : Nat} {d : Option Tmp} {l : Lc} {K : Sig → List CO → Option α} {code : α}
    (h : lay V σ ht d l K = some code) : ∃ σ' st, K σ' st = some code ∧ ∀ {S : List AV} {E : ET} {g : Env} {v : AV}, S.length = ht → Locs V σ S E g → locV l S E = some v →
      ∀ {rest : List CO} {H : HT} {n low : Nat} {K' : KS}, rOps P C (st ++ rest) S E H n low K' = some r →
      ∃ E', rOps P C rest S E' H n low K' = some r ∧ Locs V σ' S E' (Abs.put g d v) ∧ ∀ j, ge E' j = ge E j ∨ ge E' j = v := by
  unfold lay at h
  cases d with
  | none => exact ⟨σ, [], h, fun {S E g v} _ L _ {rest H n low K'} e => ⟨E, e, L, fun _ => .inl rfl⟩⟩
  | some d =>
    simp only at h
    cases hv : inV V d <;> rw [hv] at h
    · refine ⟨_, _, h, fun {S E g v} _ L hl {rest H n low K'} e => ⟨E, e, ⟨fun j l' hj => ?_, fun j hj => ?_⟩, fun _ => .inl rfl⟩⟩
      · rw [look_cons] at hj
        rw [put_at]
        by_cases hd : d = j
        · subst hd
          rw [if_pos rfl] at hj
          cases hj
          rw [if_pos rfl]; exact hl
        · rw [if_neg hd] at hj
          rw [if_neg (Ne.symm hd)]; exact L.at_ j l' hj
      · rw [put_at, if_neg (fun e => by subst e; rw [hv] at hj; cases hj)]; exact L.fr j hj
    · simp only [cond_true] at h
      cases ha : alias σ d <;> rw [ha] at h
      · refine ⟨_, _, h, fun {S E g v} hS L hl {rest H n low K'} e => ?_⟩
        subst hS
        have e1 : gO (emit S.length l) S E (fun v => setP (pt d) E v fun E => rOps P C rest S E H n low K') = some r := e
        have e2 := emit_ok hl e1
        obtain ⟨E', e3, hE⟩ := setP_ok (inV_lt hv) e2
        refine ⟨E', e3, ⟨fun j l' hj => ?_, fun j hj => ?_⟩, fun j => ?_⟩
        · rw [look_cons] at hj
          rw [put_at]
          by_cases hd : d = j
          · subst hd
            rw [if_pos rfl] at hj
            cases hj
            rw [if_pos rfl]
            simp only [locV, if_pos (inV_lt hv), hE, if_true]
          · rw [if_neg hd] at hj
            rw [if_neg (Ne.symm hd)]
            have := L.at_ j l' hj
            cases l' with
            | lv m => exact this
            | c x => exact this
            | sl q =>
              have hq := alias_ok ha hj (Ne.symm hd)
              simp only [locV] at this ⊢
              rw [hE, if_neg hq]; exact this
        · rw [hE, put_at]
          by_cases hjd : j = d
          · rw [if_pos hjd, if_pos hjd]
          · rw [if_neg hjd, if_neg hjd]; exact L.fr j hj
        · rw [hE]
          by_cases hjd : j = d
          · rw [if_pos hjd]; exact .inr rfl
          · rw [if_neg hjd]; exact .inl rfl
      · cases h

/-- A state within a region. -/
structure RI2 (b : Base) (ρ : Nat → Nat) (n low V : Nat) (σ : Sig) (S : List AV) (E : ET) (H : HT) (g : Env) (env : Env) (h : Heap) : Prop where
  s : SInv b ρ n low H h
  bg : ∀ j, Bd ρ n (g j)
  be : ∀ j, Bd ρ n (ge E j)
  env : env = renE ρ g
  L : Locs V σ S E g

def BehindS (V : Nat) (b : Base) (r : AV × HT × Nat × Nat) (n : Nat) (ρ : Nat → Nat) (K : KS) (env : Env) (h : Heap) : Prop :=
  ∃ ρ' n' low' S' E' H' g', Ext n ρ n' ρ' ∧ SInv b ρ' n' low' H' h ∧ (∀ j, Bd ρ' n' (g' j)) ∧ (∀ j, Bd ρ' n' (ge E' j)) ∧ env = renE ρ' g' ∧ (∀ j, inV V j = true → ge E' j = g' j) ∧ K S' E' H' n' low' = some r

theorem BehindS.ext {V n n' : Nat} {ρ ρ' : Nat → Nat} {K : KS} {env : Env} {h : Heap} (x : Ext n ρ n' ρ') (B : BehindS V b r n' ρ' K env h) : BehindS V b r n ρ K env h := by
  obtain ⟨ρ2, n2, low2, S2, E2, H2, g2, x2, I⟩ := B
  exact ⟨ρ2, n2, low2, S2, E2, H2, g2, x.trans x2, I⟩

theorem renE_put {ρ ρ' : Nat → Nat} {n n' : Nat} {g : Env} (hg : ∀ j, Bd ρ n (g j)) (x : Ext n ρ n' ρ') (d : Option Tmp) (v : AV) : Abs.put (renE ρ g) d (ren ρ' v) = renE ρ' (Abs.put g d v) := by
  cases d with
  | none => funext j; exact ((hg j).same x).symm
  | some d =>
    funext j
    show Abs.put (renE ρ g) (some d) (ren ρ' v) j = ren ρ' (Abs.put g (some d) v j)
    rw [put_at, put_at]
    by_cases h : j = d
    · rw [if_pos h, if_pos h]
    · rw [if_neg h, if_neg h]; exact ((hg j).same x).symm

theorem put_bd {ρ ρ' : Nat → Nat} {n n' : Nat} {g : Env} (hg : ∀ j, Bd ρ n (g j)) (x : Ext n ρ n' ρ') {v : AV} (hv : Bd ρ' n' v) (d : Option Tmp) (j : Nat) : Bd ρ' n' (Abs.put g d v j) := by
  cases d with
  | none => exact (hg j).ext x
  | some d =>
    rw [put_at]
    by_cases h : j = d
    · rw [if_pos h]; exact hv
    · rw [if_neg h]; exact (hg j).ext x

theorem isMove_eq {mode : Nat} {op : Op} {x : Operand} (h : isMove mode op = some x) : Nat.ble 16 mode = false ∧ (op = .move x ∨ op = .assign x) := by
  unfold isMove at h
  split at h
  · cases hb : Nat.ble 16 mode <;> rw [hb] at h <;> cases h; exact ⟨rfl, .inl rfl⟩
  · cases hb : Nat.ble 16 mode <;> rw [hb] at h <;> cases h; exact ⟨rfl, .inr rfl⟩
  · cases h

theorem wpU_move {mode : Nat} {op : Op} {x : Operand} (hm : isMove mode op = some x) {env : Env} {h : Heap} {k : AV → Heap → Prop} (hk : k (ev env x) h) : wpU P mode op env h k := by
  obtain ⟨hb, ho⟩ := isMove_eq hm
  rcases ho with rfl | rfl
  · refine effs_eval (by simp [effW, hb]) rfl (v := ev env x) ?_ hk
    unfold evalM; cases Nat.beq mode 2 <;> rfl
  · refine effs_eval (by simp [effW, hb]) rfl (v := ev env x) ?_ hk
    unfold evalM; cases Nat.beq mode 2 <;> rfl

theorem execOp_move {mode : Nat} {op : Op} {x : Operand} (hm : isMove mode op = some x) {g : Env} {H : HT} {n low : Nat} {K : KV} : execOp P C mode op g H n low K = K (ev g x) H n low := by
  obtain ⟨hb, ho⟩ := isMove_eq hm
  rcases ho with rfl | rfl
  · simp only [execOp, hb, cond_false, fS_eq]
  · simp only [execOp, hb, cond_false, fS_eq]

inductive Fit (ops : List Oper) (mf : Nat → Nat) : List Nat → List (Nat × Oper) → Prop
  | nil : Fit ops mf [] []
  | cons {i : Nat} {o : Oper} {pl : List Nat} {l : List (Nat × Oper)} (h : ops[i]? = some o) (t : Fit ops mf pl l) : Fit ops mf (i :: pl) ((mf i, o) :: l)

theorem bind_some {α β : Type} {x : Option α} {f : α → Option β} {y : β} (h : x.bind f = some y) : ∃ a, x = some a ∧ f a = some y := by
  cases x with
  | none => cases h
  | some a => exact ⟨a, rfl, h⟩

theorem skK_ok {V : Nat} {σ : Sig} {S : List AV} {E : ET} {g : Env} (L : Locs V σ S E g) {mode : Nat} {op : Op} {sk : Option (Nat × Op × List (Nat × O))}
    (hs : (match mode, opCall op with
      | 1, _ => some none
      | _, none => some none
      | _, some _ => tmpOs V σ S.length op.operands.toList fun l => some (some (mode, op, l)) : Option (Option (Nat × Op × List (Nat × O)))) = some sk) {K : Bool → RR} {r : AV × HT × Nat × Nat}
    (e : skK sk S E K = some r) : K (skipOk mode op g) = some r := by
  split at hs
  · cases hs; exact e
  · rename_i hn
    cases hs
    have hs : ∀ m, skipOk m op g = true := fun m => by
      unfold skipOk
      split
      · rfl
      · rw [hn]
    rw [hs]; exact e
  · rename_i p hm hn
    obtain ⟨os, h1, h2⟩ := tmpOs_ok L hs
    cases h1
    obtain ⟨vs, h3, h4, _⟩ := h2 e
    have hq : ∀ m, skipOk m op (lEnv vs) = skipOk m op g := fun m => by
      unfold skipOk
      split
      · rfl
      · rw [hn]
        obtain ⟨f, args⟩ := p
        simp only
        unfold opCall at hn
        split at hn
        · rename_i f' args' types'
          cases hn
          rw [h4 f (by simp [Op.operands, Call.operands])]
        · cases hn
    rw [← hq]; exact h3

theorem SInv.after {ρ ρ' : Nat → Nat} {n n' low low' : Nat} {H H' : HT} {h h' : Heap} (S : SInv b ρ n low H h) (S' : SInv ⟨h, n, H, ρ⟩ ρ' n' low' H' h') (x : Ext n ρ n' ρ') (hl : n ≤ low') :
    h.le h' ∧ SInv b ρ' n' low H' h' := by
  constructor
  · intro id o ho
    by_cases hex : ∃ k, k < n ∧ gh H k ≠ none ∧ ρ k = id
    · obtain ⟨k, hk, hg, rfl⟩ := hex
      obtain ⟨ob, hob⟩ := Option.ne_none_iff_exists'.1 hg
      obtain ⟨_, b2⟩ := S.bd k ob hob
      have h1 := S.hr k ob hob
      rw [ho] at h1
      cases h1
      have h2 : gh H' k = some ob := (S'.keep k hk (by omega)).trans hob
      have h3 := S'.hr k ob h2
      rw [← x.2 k hk, b2 ρ' x.2] at h3
      exact h3
    · exact S'.fr id o ho fun k hk hg he => hex ⟨k, hk, hg, he⟩
  · refine ⟨S'.hr, S'.inj, S'.bd, fun id o h0 hu => ?_, fun k hk hkl => ?_, fun k hk => ?_, Nat.le_trans S.le x.1⟩
    · exact S'.fr id o (S.fr id o h0 hu) fun k _ hg he => S.own' hg h0 hu he.symm
    · exact (S'.keep k (Nat.lt_of_lt_of_le hk S.le) (Nat.lt_of_lt_of_le (Nat.lt_of_lt_of_le hk S.le) hl)).trans (S.keep k hk hkl)
    · rcases S'.own k hk with hn | ⟨j, h1, h2, h3⟩
      · by_cases ht : ∃ j, j < b.n0 ∧ gh b.H0 j ≠ none ∧ b.ρ0 j = ρ' k
        · exact .inr ht
        · left
          cases hb : b.h0 (ρ' k) with
          | none => rfl
          | some o =>
            have := S.fr (ρ' k) o hb fun j hj hg he => ht ⟨j, hj, hg, he⟩
            rw [show h (ρ' k) = none from hn] at this
            cases this
      · rw [← show ρ j = ρ' k from h3]
        exact S.own j h2

theorem idK_ok {a : AV} {K : Nat → RR} {r : AV × HT × Nat × Nat} (e : idK a K = some r) : ∃ sz id j off, a = .ptr sz id j off ∧ K id = some r := by
  cases a <;> first
    | exact ⟨_, _, _, _, rfl, e⟩
    | cases e
theorem obK_ok {H : HT} {id : Nat} {K : AObj → RR} {r : AV × HT × Nat × Nat} (e : obK H id K = some r) : ∃ ob, gh H id = some ob ∧ K ob = some r := by
  unfold obK at e
  split at e
  · rename_i o ho; exact ⟨o, ho, e⟩
  · cases e
theorem compL_ok (hC : CallOK P C) {V : Nat} {ops : List Oper} {mf : Nat → Nat} : ∀ {pl : List Nat} {l : List (Nat × Oper)}, Fit ops mf pl l → ∀ {σ : Sig} {S : List AV} {code : List CO} {ρ : Nat → Nat} {n low : Nat} {E : ET} {H : HT} {g env : Env}
    {h : Heap} {K : KS}, compL P V ops l σ S.length = some code → RI2 b ρ n low V σ S E H g env h → rOps P C code S E H n low K = some r → wpPlan P ops mf (pl.map .op) (BehindS V b r n ρ K) env h := by
  intro pl l F
  induction F with
  | nil =>
    intro σ S code ρ n low E H g env h K hc I e
    cases hc
    exact ⟨ρ, n, low, S, E, H, g, .refl _ _, I.s, I.bg, I.be, I.env, I.L.fr, e⟩
  | @cons i o pl l ho F ih =>
    intro σ S code ρ n low E H g env h K hc I e
    simp only [List.map_cons, wpPlan, ho]
    -- behind an instruction that leaves its value on the stack
    have behind : ∀ {α : Type} {cc : α} {F : List CO → α}, (lay V σ (Nat.succ S.length) o.dst (.lv S.length) fun σ st => (compL P V ops l σ (Nat.succ S.length)).bind fun r => some (F (st ++ r))) = some cc →
        ∃ rest, cc = F rest ∧ KOk b r n ρ (fun v H n low => rOps P C rest (v :: S) E H n low K) (fun v h' => wpPlan P ops mf (pl.map .op) (BehindS V b r n ρ K) (Abs.put env o.dst v) h') := by
      intro α cc F hl
      obtain ⟨σ', st, h1, h2⟩ := lay_ok (P := P) (C := C) (r := r) hl
      obtain ⟨rr, hr, h3⟩ := bind_some h1
      cases h3
      refine ⟨_, rfl, ?_⟩
      intro v H' n' low' ρ' h' x S' hv e2
      obtain ⟨E', e3, L', hE⟩ := h2 (S := v :: S) (E := E) (g := g) (v := v) rfl (I.L.push v) (locV_top S E v) e2
      refine wpPlan_mono (fun _ _ B => B.ext x) (ih (S := v :: S) hr ⟨S', put_bd I.bg x hv o.dst, fun j => ?_, ?_, L'⟩ e3)
      · rcases hE j with h1 | h1
        · rw [h1]; exact (I.be j).ext x
        · rw [h1]; exact hv
      · rw [I.env]; exact renE_put I.bg x o.dst v
    have hc0 : (match Nat.ble 4096 (mf i) with
       | true => (match o.guard with
        | none => match Nat.beq (sideC (mf i)) 0 with
         | true => (compOp P V σ S.length (sideB (mf i)) o.op).bind fun ins => lay V σ (Nat.succ S.length) o.dst (.lv S.length) fun σ st => (compL P V ops l σ (Nat.succ S.length)).bind fun r => some (.z ins :: (st ++ r))
         | false => match look V σ (sideS (mf i)) with
          | some lc => (compOp P V σ S.length (sideB (mf i)) o.op).bind fun ins => match sideC (mf i) with
            | 0 => none
            | 1 => lay V σ (Nat.succ S.length) o.dst (.lv S.length) fun σ st => (compL P V ops l σ (Nat.succ S.length)).bind fun r => some (.k (emit S.length lc) ins :: (st ++ r))
            | c => match addrO o.op with
              | some a => opO V σ S.length a fun y => lay V σ (Nat.succ S.length) o.dst (.lv S.length) fun σ st => (compL P V ops l σ (Nat.succ S.length)).bind fun r => some (.sd (Nat.beq c 2) (emit S.length lc) y ins :: (st ++ r))
              | none => none
          | none => none
        | some _ => none)
       | false => (match o.guard with
        | none => match isMove (mf i) o.op with
          | some x => match locOf V σ x with
            | some lc => match (match lc with
                | .sl q => hasDst ((o :: l.map Prod.snd)) q
                | _ => false : Bool) with
              | true => lay V σ (Nat.succ S.length) o.dst (.lv S.length) fun σ st => (compL P V ops l σ (Nat.succ S.length)).bind fun r => some (.u (.mv (emit S.length lc)) :: (st ++ r))
              | false => lay V σ S.length o.dst lc fun σ st => (compL P V ops l σ S.length).bind fun r => some (st ++ r)
            | none => none
          | none => (compOp P V σ S.length (mf i) o.op).bind fun i => lay V σ (Nat.succ S.length) o.dst (.lv S.length) fun σ st => (compL P V ops l σ (Nat.succ S.length)).bind fun r => some (.u i :: (st ++ r))
        | some (g, b) => match guardSlot ops g with
          | some d => match look V σ d with
            | some lc => ((match isMove (mf i) o.op with
                | some x => opO V σ S.length x fun x => some (.mv x)
                | none => compOp P V σ S.length (mf i) o.op) : Option Ins).bind fun ins =>
                ((match mf i, opCall o.op with
                  | 1, _ => some none
                  | _, none => some none
                  | _, some _ => tmpOs V σ S.length o.op.operands.toList fun l => some (some (mf i, o.op, l))) : Option (Option (Nat × Op × List (Nat × O)))).bind fun sk =>
                lay V σ (Nat.succ S.length) o.dst (.lv S.length) fun σ st => (compL P V ops l σ (Nat.succ S.length)).bind fun r => some (.g (emit S.length lc) b ins sk :: (st ++ r))
            | none => none
          | none => none) : Option (List CO)) = some code := hc
    split at hc0
    · rename_i hsd
      split at hc0
      · rename_i hg
        split at hc0
        · rename_i hz
          obtain ⟨ins, hi, hl⟩ := bind_some hc0
          obtain ⟨rest, rfl, hK⟩ := behind hl
          have e1 : runI P C ins S E H n n (fun S E H n' low' => gB (Nat.ble n low') (rOps P C rest S E H n' low K)) = some r := e
          have e5 := compOp_ok I.L hi (K := fun S E H n' low' => gB (Nat.ble n low') (rOps P C rest S E H n' low K)) e1
          unfold wpOne
          rw [hsd, hz]
          unfold wpZ wpV
          rw [hg]
          rw [I.env] at hK ⊢
          have S0 : SInv ⟨h, n, H, ρ⟩ ρ n n H h := ⟨I.s.hr, I.s.inj, I.s.bd, fun _ _ h0 _ => h0, fun _ _ _ => rfl, fun q hq => .inr ⟨q, by
            cases ho : gh H q with
            | none => exact absurd ho hq
            | some o => exact (I.s.bd q o ho).1, hq, rfl⟩, Nat.le_refl _⟩
          refine execOp_ok hC S0 I.bg e5 fun v H' n' low' ρ' h' x S' hv e6 => ?_
          obtain ⟨hb, e7⟩ := gB_ok e6
          obtain ⟨hle, S2⟩ := SInv.after I.s S' x (Nat.le_of_ble_eq_true hb)
          exact ⟨hle, hK v H' n' low ρ' h' x S2 hv e7⟩
        rename_i hz
        split at hc0
        · rename_i lc hlc
          obtain ⟨ins, hi, hl⟩ := bind_some hc0
          have hL := I.L.at_ (sideS (mf i)) lc hlc
          have es : ∀ {sz id j off}, g (sideS (mf i)) = .ptr sz id j off → idOf (env (sideS (mf i))) = some (ρ id) := fun hgs => by
            rw [I.env]
            show idOf (ren ρ (g (sideS (mf i)))) = _
            rw [hgs, ren_ptr]
            rfl
          split at hl
          · cases hl
          · rename_i hc1
            obtain ⟨rest, rfl, hK⟩ := behind hl
            have e1 : gO (emit S.length lc) S E (fun a => idK a fun id => obK H id fun ob => runI P C ins S E H n low fun S E H n low => obK H id fun ob' => gB (eqO ob ob') (rOps P C rest S E H n low K)) = some r := e
            obtain ⟨sz, id, j, off, hgs, e3⟩ := idK_ok (emit_ok hL e1)
            obtain ⟨ob, hob, e4⟩ := obK_ok e3
            have e5 := compOp_ok I.L hi (K := fun S E H n low => obK H id fun ob' => gB (eqO ob ob') (rOps P C rest S E H n low K)) e4
            unfold wpOne
            rw [hsd, hz]
            refine ⟨hg, ρ id, es hgs, by rw [hc1]; trivial, ?_⟩
            unfold wpV
            rw [hg]
            rw [I.env] at hK ⊢
            refine execOp_ok hC I.s I.bg e5 fun v H' n' low' ρ' h' x S' hv e6 => ?_
            obtain ⟨ob', hob', e7⟩ := obK_ok e6
            obtain ⟨hq, e8⟩ := gB_ok e7
            obtain rfl := eqO_ok hq
            refine ⟨fun _ => ?_, hK v H' n' low' ρ' h' x S' hv e8⟩
            obtain ⟨b1, b2⟩ := I.s.bd id ob hob
            rw [x.2 id b1, S'.hr id ob hob', b2 ρ' x.2, ← x.2 id b1, I.s.hr id ob hob]
          · rename_i c hc0' hc1'
            split at hl
            · rename_i a ha
              obtain ⟨oy, hl, hoy⟩ := opO_ok I.L hl
              obtain ⟨rest, rfl, hK⟩ := behind hl
              have e1 : gO (emit S.length lc) S E (fun x => gO oy S E fun y => idK x fun id => idK y fun id' => obK H id fun _ => obK H id' fun _ => gB (bE (Nat.beq (sideC (mf i)) 2) (Nat.beq id id')) (runI P C ins S E H n low fun S E H n low => rOps P C rest S E H n low K)) = some r := e
              have e2 := emit_ok hL e1
              have e2 := hoy (K' := fun y => idK (g (sideS (mf i))) fun id => idK y fun id' => obK H id fun _ => obK H id' fun _ => gB (bE (Nat.beq (sideC (mf i)) 2) (Nat.beq id id')) (runI P C ins S E H n low fun S E H n low => rOps P C rest S E H n low K)) e2
              obtain ⟨sz, id, j, off, hgs, e3⟩ := idK_ok e2
              obtain ⟨sz', id', j', off', hga, e4⟩ := idK_ok e3
              obtain ⟨ob, hob, e4⟩ := obK_ok e4
              obtain ⟨ob', hob', e4⟩ := obK_ok e4
              obtain ⟨hq, e4⟩ := gB_ok e4
              have e5 := compOp_ok I.L hi (K := fun S E H n low => rOps P C rest S E H n low K) e4
              have ea : idOf (ev env a) = some (ρ id') := by
                rw [I.env, ev_ren, hga, ren_ptr]
                rfl
              unfold wpOne
              rw [hsd, hz]
              refine ⟨hg, ρ id, es hgs, ?_, ?_⟩
              · have hlt : sideC (mf i) < 4 := Nat.mod_lt _ (by omega)
                by_cases h2 : sideC (mf i) = 2
                · rw [h2] at hq ⊢
                  have : id = id' := Nat.eq_of_beq_eq_true hq
                  subst this
                  exact ⟨a, ha, ea⟩
                · have h3 : sideC (mf i) = 3 := by
                    have : sideC (mf i) ≠ 0 := fun e => hc0' e
                    have : sideC (mf i) ≠ 1 := fun e => hc1' e
                    omega
                  rw [h3] at hq ⊢
                  refine ⟨a, ρ id', ha, ea, fun he => ?_⟩
                  have := I.s.inj id id' (by rw [hob]; simp) (by rw [hob']; simp) he
                  rw [this, Nat.beq_refl] at hq
                  cases hq
              · unfold wpV
                rw [hg]
                have hn : sideC (mf i) ≠ 1 := fun e => hc1' e
                rw [I.env] at hK ⊢
                refine execOp_ok hC I.s I.bg e5 fun v H' n' low' ρ' h' x S' hv e6 => ⟨fun hc => absurd hc hn, hK v H' n' low' ρ' h' x S' hv e6⟩
            · cases hl
        · cases hc0
      · cases hc0
    rename_i hsd
    have hc' := hc0
    split at hc'
    · rename_i hg
      have plain : wpU P (mf i) o.op env h (fun v h' => wpPlan P ops mf (pl.map .op) (BehindS V b r n ρ K) (Abs.put env o.dst v) h') → wpOne P ops (mf i) o (wpPlan P ops mf (pl.map .op) (BehindS V b r n ρ K)) env h := by
        intro hw
        unfold wpOne wpV
        rw [hsd, hg]
        exact hw
      refine plain ?_
      split at hc'
      · rename_i x hm
        split at hc'
        · rename_i lc hlc
          split at hc'
          · obtain ⟨rest, rfl, hK⟩ := behind hc'
            have e1 : gO (emit S.length lc) S E (fun v => rOps P C rest (v :: S) E H n low K) = some r := e
            have e2 := emit_ok (locOf_ok I.L hlc) e1
            refine wpU_move hm ?_
            have := hK.at I.s (ev_bd I.bg x) e2
            rw [I.env, ev_ren]
            rw [I.env] at this
            exact this
          · obtain ⟨σ', st, h1, h2⟩ := lay_ok (P := P) (C := C) (r := r) hc'
            obtain ⟨rr, hr, h3⟩ := bind_some h1
            cases h3
            obtain ⟨E', e3, L', hE⟩ := h2 (S := S) (E := E) (g := g) (v := ev g x) rfl I.L (locOf_ok I.L hlc) e
            refine wpU_move hm ?_
            refine ih (S := S) hr ⟨I.s, put_bd I.bg (.refl _ _) (ev_bd I.bg x) o.dst, fun j => ?_, ?_, L'⟩ e3
            · rcases hE j with h1 | h1
              · rw [h1]; exact I.be j
              · rw [h1]; exact ev_bd I.bg x
            · rw [I.env, ev_ren]; exact renE_put I.bg (.refl _ _) o.dst _
        · cases hc'
      · obtain ⟨ins, hi, hl⟩ := bind_some hc'
        obtain ⟨rest, rfl, hK⟩ := behind hl
        have e1 := compOp_ok I.L hi (K := fun S E H n low => rOps P C rest S E H n low K) e
        rw [I.env] at hK ⊢
        exact execOp_ok hC I.s I.bg e1 hK
    · rename_i gi bb hg
      split at hc'
      · rename_i d hd
        split at hc'
        · rename_i lc hlc
          obtain ⟨ins, hi, hl⟩ := bind_some hc'
          obtain ⟨sk, hsk, hl⟩ := bind_some hl
          obtain ⟨rest, rfl, hK⟩ := behind hl
          have e1 : gO (emit S.length lc) S E (fun v => kV v (gV P C bb ins sk S E H n low fun S E H n low => rOps P C rest S E H n low K)) = some r := e
          have e2 := emit_ok (I.L.at_ d lc hlc) e1
          obtain ⟨x, hx, e3⟩ := kV_ok e2
          have hx' : env d = .v x := by rw [I.env]; show ren ρ (g d) = _; rw [hx]; simp
          have run : runI P C ins S E H n low (fun S E H n low => rOps P C rest S E H n low K) = some r →
              wpU P (mf i) o.op env h (fun v h' => wpPlan P ops mf (pl.map .op) (BehindS V b r n ρ K) (Abs.put env o.dst v) h') := by
            intro e4
            have e5 : execOp P C (mf i) o.op g H n low (fun v H n low => rOps P C rest (v :: S) E H n low K) = some r := by
              split at hi
              · rename_i y hm
                obtain ⟨oy, h1, h2⟩ := opO_ok I.L hi
                cases h1
                rw [execOp_move hm]
                exact h2 (K' := fun v => rOps P C rest (v :: S) E H n low K) e4
              · exact compOp_ok I.L hi (K := fun S E H n low => rOps P C rest S E H n low K) e4
            rw [I.env] at hK ⊢
            exact execOp_ok hC I.s I.bg e5 hK
          have skip : skK sk S E (fun ok => gSkip ok S E H n low fun S E H n low => rOps P C rest S E H n low K) = some r → ∀ {c : Prop}, ¬ c →
              wpG P (mf i) o.op c env h (fun v h' => wpPlan P ops mf (pl.map .op) (BehindS V b r n ρ K) (Abs.put env o.dst v) h') := by
            intro e4 c hc
            have e5 := skK_ok I.L hsk e4
            cases hs : skipOk (mf i) o.op g with
            | false => rw [hs] at e5; cases e5
            | true =>
              rw [hs] at e5
              refine wpG_neg hc (by rw [I.env]; exact skipOk_ok hs) ?_
              have := hK.at I.s (v := undefAV) (Bd.v _ _ _) e5
              simpa [undefAV] using this
          unfold wpOne wpV
          rw [hsd, hg]
          simp only [hd]
          refine ⟨⟨x, hx'⟩, ?_⟩
          unfold gV at e3
          split at e3
          · rename_i c
            cases c <;> cases bb
            · exact wpG_pos hx' (run e3)
            · exact skip e3 (by rw [hx']; simp)
            · exact skip e3 (by rw [hx']; simp)
            · exact wpG_pos hx' (run e3)
          · rename_i hnb
            exact skip e3 (by rw [hx']; intro hh; cases hh; exact hnb _ rfl)
        · cases hc'
      · cases hc'

end
end Go.Abs

namespace Go.Abs

/-- What is known between regions: the slots of the frame. -/
noncomputable def gV' (V : Nat) (E : ET) : Env := fun j => bif inV V j then ge E j else .any

structure CInv (b : Base) (ρ : Nat → Nat) (n low V : Nat) (E : ET) (H : HT) (env : Env) (h : Heap) : Prop where
  s : SInv b ρ n low H h
  be : ∀ j, Bd ρ n (ge E j)
  env : env = renE ρ (gV' V E)

section
variable {P : Program} {C : CallF} {b : Base} {r : AV × HT × Nat × Nat}

theorem gV'_in {V j : Nat} (E : ET) (h : inV V j = true) : gV' V E j = ge E j := by unfold gV'; rw [h]; rfl
theorem gV'_out {V j : Nat} (E : ET) (h : inV V j = false) : gV' V E j = .any := by unfold gV'; rw [h]; rfl

theorem gV'_bd {ρ : Nat → Nat} {n V : Nat} {E : ET} (be : ∀ j, Bd ρ n (ge E j)) (j : Nat) : Bd ρ n (gV' V E j) := by
  cases h : inV V j
  · rw [gV'_out E h]; intro _ _; simp
  · rw [gV'_in E h]; exact be j

theorem locs0 (V : Nat) (E : ET) : Locs V [] [] E (gV' V E) := by
  refine ⟨fun j l h => ?_, fun j h => (gV'_in E h).symm⟩
  obtain ⟨rfl, hv⟩ := look_nil h
  simp only [locV, if_pos (inV_lt hv), gV'_in E hv]

def XOkV (V : Nat) (ds : List Deferred) (w0 : World) (N : Nat) (b : Base) (r : AV × HT × Nat × Nat) (G : Gh) (n : Nat) (ρ : Nat → Nat) (K : KX) (Post : Exit → Act → World → Prop) : Prop :=
  ∀ x E' H' n' low' ρ' env' h' G' a' w' e, Ext n ρ n' ρ' → G.le G' → Fr ds w0 G' N env' h' a' w' → CInv b ρ' n' low' V E' H' env' h' → K x E' H' n' low' = some r → XE x e → Post e a' w'

theorem XOkV.at {V : Nat} {ds : List Deferred} {w0 : World} {N : Nat} {G G' : Gh} {n n' low' : Nat} {ρ ρ' : Nat → Nat} {K : KX} {Post : Exit → Act → World → Prop} (hK : XOkV V ds w0 N b r G n ρ K Post) {x : AExit} {e : Exit} {E' : ET} {H' : HT} {env' : Env} {h' : Heap} {a' : Act} {w' : World}
    (hx : Ext n ρ n' ρ') (hG : G.le G') (F : Fr ds w0 G' N env' h' a' w') (I : CInv b ρ' n' low' V E' H' env' h') (ee : K x E' H' n' low' = some r) (xe : XE x e) : Post e a' w' :=
  hK x E' H' n' low' ρ' env' h' G' a' w' e hx hG F I ee xe

theorem XOkV.ext {V : Nat} {ds : List Deferred} {w0 : World} {N : Nat} {G G' : Gh} {n n' : Nat} {ρ ρ' : Nat → Nat} {K : KX} {Post : Exit → Act → World → Prop} (hK : XOkV V ds w0 N b r G n ρ K Post) (x : Ext n ρ n' ρ') (hG : G.le G') : XOkV V ds w0 N b r G' n' ρ' K Post :=
  fun y E' H' n2 low' ρ2 env' h' G2 a' w' e x2 g2 F I ee xe => hK y E' H' n2 low' ρ2 env' h' G2 a' w' e (x.trans x2) (hG.trans g2) F I ee xe

theorem fit_map {ops : List Oper} {mf : Oper → Nat} : ∀ {l pre : List Oper}, ops = pre ++ l → Fit ops (fun i => match ops[i]? with | some o => mf o | none => 0) (List.range' pre.length l.length) (l.map fun o => (mf o, o)) := by
  intro l
  induction l with
  | nil => intro pre _; exact .nil
  | cons o l ih =>
    intro pre hp
    rw [List.length_cons, List.range'_succ, List.map_cons]
    have ho : ops[pre.length]? = some o := by subst hp; simp
    have := ih (pre := pre ++ [o]) (by subst hp; simp)
    rw [List.length_append, List.length_singleton] at this
    have h2 := Fit.cons (mf := fun i => match ops[i]? with | some o => mf o | none => 0) ho this
    simp only [ho] at h2
    exact h2

theorem getOps_ok {ops : List Oper} {mode : Nat → Nat} : ∀ {pl : List Nat} {l : List (Nat × Oper)}, getOps ops mode pl = some l → Fit ops mode pl l := by
  intro pl
  induction pl with
  | nil => intro l h; cases h; exact .nil
  | cons i pl ih =>
    intro l h
    have h' : (match ops[i]? with
      | some o => (getOps ops mode pl).bind fun r => some ((mode i, o) :: r)
      | none => none) = some l := h
    split at h'
    · rename_i o ho
      obtain ⟨rr, h1, h2⟩ := bind_some h'
      cases h2
      exact .cons ho (ih h1)
    · cases h'

theorem runC_ok (hm : P.follows .mixedOrders = true) (hC : CallOK P C) {D : DHints} {N V lf : Nat} {ds : List Deferred} {w0 : World} : ∀ {c : Code} {ρ : Nat → Nat} {n low : Nat} {E : ET} {H : HT} {env : Env} {h : Heap} {K : KX} {G : Gh} {a : Act} {w : World}
    {Post : Exit → Act → World → Prop}, CInv b ρ n low V E H env h → Fr ds w0 G N env h a w → runC P C lf (compC P D N V c) E H n low K = some r → XOkV V ds w0 N b r G n ρ K Post → c.wp P Post a w := by
  intro c
  induction c with
  | skip => intro ρ n low E H env h K G a w Post I F e hK; exact wp_skip (hK.at (.refl _ _) (.refl _) F I e .normal)
  | region id ops draw =>
    intro ρ n low E H env h K G a w Post I F e hK
    have fin : ∀ (env' : Env) (h' : Heap) (a' : Act) (w' : World) (G' : Gh), G.le G' → Fr ds w0 G' N env' h' a' w' → BehindS V b r n ρ (fun _ E H n low => K .normal E H n low) env' h' → Post .normal a' w' := by
      intro env' h' a' w' G' hG F' B
      obtain ⟨ρ', n', low', S', E', H', g', x, s', bg', be', he', hv', e2⟩ := B
      refine hK.at x hG (env' := renE ρ' (gV' V E')) ⟨F'.wr, fun j => ?_, F'.size, F'.defers⟩ ⟨s', be', rfl⟩ e2 .normal
      show VR G' (ren ρ' (gV' V E' j)) _
      cases hj : inV V j
      · rw [gV'_out E' hj, ren_any]; exact .any _
      · rw [gV'_in E' hj, hv' j hj]
        have := F'.er j
        rw [he'] at this
        exact this
    have I0 : RI2 b ρ n low V [] [] E H (gV' V E) env h := ⟨I.s, gV'_bd I.be, I.be, I.env, locs0 V E⟩
    have ofCC : ∀ {x : Option (List CO)}, runC P C lf (ccOf x) E H n low K = some r → ∃ l, x = some l ∧ rOps P C l [] E H n low (fun _ E H n low => K .normal E H n low) = some r := by
      intro x hx
      cases x with
      | none => cases hx
      | some l => exact ⟨l, rfl, hx⟩
    cases draw with
    | false =>
      have e' : runC P C lf (match slotsOk N ops.toList with
        | true => ccOf (compL P V ops.toList (ops.toList.map fun o => (modeE P o.op, o)) [] 0)
        | false => .bad) E H n low K = some r := e
      split at e'
      · rename_i hs
        obtain ⟨l, h1, h2⟩ := ofCC e'
        refine wp_region ?_
        have hp := compL_ok hC (fit_map (mf := fun o => modeE P o.op) (ops := ops.toList) (pre := []) (by simp)) (S := []) h1 I0 h2
        have := wpPlan_ok (Q := Post) hs _ F fin hp
        rw [flatS_op] at this
        simpa [List.range_eq_range'] using this
      · cases e'
    | true =>
      have e' : runC P C lf (match regionOk N ops.toList true (lookN 0 (D id).2) ((D id).1.map .op) with
        | true => ccOf ((getOps ops.toList (lookN 0 (D id).2) (D id).1).bind fun l => compL P V ops.toList l [] 0)
        | false => .bad) E H n low K = some r := e
      split at e'
      · rename_i hr
        obtain ⟨l, h1, h2⟩ := ofCC e'
        obtain ⟨lo, h3, h4⟩ := bind_some h1
        unfold regionOk at hr
        simp only [Bool.and_eq_true] at hr
        obtain ⟨hs, ⟨r1, r2⟩, r3⟩ := hr
        refine wp_region_any hm ?_
        have hp := compL_ok hC (getOps_ok h3) (S := []) h4 I0 h2
        have hf := wpPlan_flat (opsOnly_op _) hp
        exact planOk_any hs r2 r3 (h := h) (env := env) (G := G) ⟨F.wr.drew _, F.er, F.size, F.defers⟩ fin hf
      · cases e'
  | seq x y ihx ihy =>
    intro ρ n low E H env h K G a w Post I F e hK
    refine wp_seq (ihx I F e ?_)
    intro z E' H' n' low' ρ' env' h' G' a' w' ex hx hG F' I' e2 xe
    cases xe with
    | normal => exact ihy I' F' e2 (hK.ext hx hG)
    | exit j => exact hK.at hx hG F' I' e2 (.exit j)
    | ret => exact hK.at hx hG F' I' e2 .ret
  | cond c x y ihx ihy =>
    intro ρ n low E H env h K G a w Post I F e hK
    have e' : runC P C lf (match locOf V [] c with
      | some l => .cond (emit 0 l) (compC P D N V x) (compC P D N V y)
      | none => .bad) E H n low K = some r := e
    split at e'
    · rename_i l hl
      have e1 : gO (emit ([] : List AV).length l) [] E (fun v => kB v (cCond (runC P C lf (compC P D N V x)) (runC P C lf (compC P D N V y)) E H n low K)) = some r := e'
      have e2 := emit_ok (locOf_ok (locs0 V E) hl) e1
      obtain ⟨t, ht, e3⟩ := kB_ok e2
      have hv := F.er.ev c
      rw [I.env, ev_ren, ht, ren_v] at hv
      have hb : a.eval c = .bool t := by
        generalize a.eval c = cv at hv
        cases hv; rfl
      cases t with
      | true => exact wp_cond_split hb (fun _ => ihx I F e3 hK) (fun h => by cases h)
      | false => exact wp_cond_split hb (fun h => by cases h) (fun _ => ihy I F e3 hK)
    · cases e'
  | block id x ih =>
    intro ρ n low E H env h K G a w Post I F e hK
    refine wp_block (ih I F e ?_)
    intro z E' H' n' low' ρ' env' h' G' a' w' ex hx hG F' I' e2 xe
    cases xe with
    | normal => exact hK.at hx hG F' I' e2 .normal
    | exit j =>
      have e3 : @Bool.rec (fun _ => ET → HT → Nat → Nat → RR) (K (.exit j)) (K .normal) (Nat.beq j id) E' H' n' low' = some r := e2
      simp only [Exit.inBlock]
      by_cases hj : j = id
      · subst hj
        rw [if_pos rfl]
        rw [beq_self] at e3
        exact hK.at hx hG F' I' e3 .normal
      · rw [if_neg hj]
        rw [beq_false hj] at e3
        exact hK.at hx hG F' I' e3 (.exit j)
    | ret => exact hK.at hx hG F' I' e2 .ret
  | loop x ih =>
    intro ρ n low E H env h K G a w Post I F e hK
    refine wp_loop_rounds lf ?_
    have e' : rLoop (runC P C lf (compC P D N V x)) K lf E H n low = some r := e
    clear e
    have main : ∀ (m : Nat) (ρ' : Nat → Nat) (n' low' : Nat) (E' : ET) (H' : HT) (env' : Env) (h' : Heap) (G' : Gh) (a' : Act) (w' : World), Ext n ρ n' ρ' → G.le G' → CInv b ρ' n' low' V E' H' env' h' → Fr ds w0 G' N env' h' a' w' →
        rLoop (runC P C lf (compC P D N V x)) K m E' H' n' low' = some r → Code.rounds P x Post m a' w' := by
      intro m
      induction m with
      | zero => intro ρ' n' low' E' H' env' h' G' a' w' _ _ _ _ e; cases e
      | succ m ihm =>
        intro ρ' n' low' E' H' env' h' G' a' w' hx hG I' F' e
        have e1 : runC P C lf (compC P D N V x) E' H' n' low' (cLoop (rLoop (runC P C lf (compC P D N V x)) K m) K) = some r := e
        rw [rounds_succ]
        refine ih I' F' e1 ?_
        intro z E2 H2 n2 low2 ρ2 env2 h2 G2 a2 w2 ex hx2 hG2 F2 I2 e2 xe
        cases xe with
        | normal => exact ihm ρ2 n2 low2 E2 H2 env2 h2 G2 a2 w2 (hx.trans hx2) (hG.trans hG2) I2 F2 e2
        | exit j => exact hK.at (hx.trans hx2) (hG.trans hG2) F2 I2 e2 (.exit j)
        | ret => exact hK.at (hx.trans hx2) (hG.trans hG2) F2 I2 e2 .ret
    exact main lf ρ n low E H env h G a w (.refl _ _) (.refl _) I F e'
  | exit id => intro ρ n low E H env h K G a w Post I F e hK; exact wp_exit (hK.at (.refl _ _) (.refl _) F I e (.exit id))
  | ret => intro ρ n low E H env h K G a w Post I F e hK; exact wp_ret (hK.at (.refl _ _) (.refl _) F I e .ret)
  | rangeFunc => intro ρ n low E H env h K G a w Post I F e hK; cases e
  | scope => intro ρ n low E H env h K G a w Post I F e hK; cases e
  | label => intro ρ n low E H env h K G a w Post I F e hK; cases e
  | goto => intro ρ n low E H env h K G a w Post I F e hK; cases e
  | refuse => intro ρ n low E H env h K G a w Post I F e hK; cases e

theorem retK_okV {ρ : Nat → Nat} {n low V : Nat} {E : ET} {H : HT} {env : Env} {h : Heap} (I : CInv b ρ n low V E H env h) : ∀ {l : List ResultVar} {K : List AV → RR} {Q : List AV → Prop},
    (∀ x ∈ l, match x with | .tmp t => inV V t = true | .cell a _ => inV V a = true) → retK P l E H K = some r →
    (∀ vs, (∀ v ∈ vs, Bd ρ n v) → K vs = some r → Q (vs.map (ren ρ))) → retVals P l env h Q := by
  intro l
  induction l with
  | nil => intro K Q _ e hK; exact hK [] (by simp) e
  | cons x l ih =>
    intro K Q hl e hK
    have hx := hl x (by simp)
    have hl' := fun y hy => hl y (List.mem_cons_of_mem _ hy)
    cases x with
    | tmp t =>
      have e' : fS (ge E t) (fun v => retK P l E H fun vs => K (v :: vs)) = some r := e
      rw [fS_eq] at e'
      simp only [retVals]
      refine ih hl' e' fun vs hvs e2 => ?_
      have := hK (ge E t :: vs) (fun v hv => by
        rcases List.mem_cons.1 hv with rfl | hv
        · exact I.be t
        · exact hvs v hv) e2
      rw [I.env]
      show Q (ren ρ (gV' V E t) :: _)
      rw [gV'_in E hx]
      simpa using this
    | cell x t =>
      have e' : (match tAgg P t with
        | some g => match (P.info? t).isSome with
          | true => match eLoad g (if g then tSize P t else 1) (ge E x) (gh H) with
            | some v => fD v fun v => retK P l E H fun vs => K (v :: vs)
            | none => none
          | false => none
        | none => none) = some r := e
      simp only [retVals]
      split at e'
      · rename_i g hg
        rw [hg]
        simp only
        split at e'
        · rename_i hi
          simp only [hi]
          split at e'
          · rename_i v hv
            rw [fD_eq] at e'
            have hv' := eLoad_ren I.s.hr hv
            have hb : Bd ρ n v := bd_of (x := eLoad g (if g then tSize P t else 1) (ren ρ (ge E x)) h) fun ρ' he => by
              rw [← I.be x ρ' he]; exact eLoad_ren (I.s.hr' he) hv
            have hex : env x = ren ρ (ge E x) := by rw [I.env]; show ren ρ (gV' V E x) = _; rw [gV'_in E hx]
            rw [hex, hv', bindO_some]
            refine ih (Q := fun vs => Q (ren ρ v :: vs)) hl' e' fun vs hvs e2 => ?_
            have := hK (v :: vs) (fun u hu => by
              rcases List.mem_cons.1 hu with rfl | hu
              · exact hb
              · exact hvs u hu) e2
            simpa using this
          · cases e'
        · cases e'
      · cases e'

theorem putArgs_ok {as : List AV} : ∀ {k : Nat} {t : ET} {K : ET → RR}, k + as.length < 16383 → @List.rec AV (fun _ => Nat → ET → RR) (fun _ t => K t) (fun a _ ih k t => setP (pt k) t a (ih (Nat.succ k))) as k t = some r →
    ∃ E, K E = some r ∧ ∀ j, ge E j = if k ≤ j ∧ j < k + as.length then lget as (j - k) else ge t j := by
  induction as with
  | nil => intro k t K _ e; exact ⟨t, e, fun j => by rw [if_neg (by simp)]⟩
  | cons a as ih =>
    intro k t K hk e
    simp only [List.length_cons] at hk
    obtain ⟨t', e1, h1⟩ := setP_ok (q := k) (by omega) (K := @List.rec AV (fun _ => Nat → ET → RR) (fun _ t => K t) (fun a _ ih k t => setP (pt k) t a (ih (Nat.succ k))) as (Nat.succ k)) e
    obtain ⟨E, e2, h2⟩ := ih (k := Nat.succ k) (by omega) e1
    refine ⟨E, e2, fun j => ?_⟩
    rw [h2]
    by_cases hj : j = k
    · subst hj
      rw [if_neg (by omega), if_pos (by simp), h1, if_pos rfl]
      simp [lget]
    · by_cases hj2 : Nat.succ k ≤ j ∧ j < Nat.succ k + as.length
      · rw [if_pos hj2, if_pos (by simp; omega)]
        obtain ⟨m, rfl⟩ : ∃ m, j = k + 1 + m := ⟨j - (k + 1), by omega⟩
        have a1 : k + 1 + m - Nat.succ k = m := by omega
        have a2 : k + 1 + m - k = m + 1 := by omega
        rw [a1, a2]
        simp [lget]
      · rw [if_neg hj2, if_neg (by simp; omega), h1, if_neg hj]

theorem callX_ok (hm : P.follows .mixedOrders = true) (hent : Enters P) {D : FuncId → DHints} {lf : Nat} : ∀ depth, CallOK P (callX P D lf depth) := by
  intro depth
  induction depth with
  | zero => intro b ρ n low H h f as K r Q _ _ e; cases e
  | succ d ih =>
    intro b ρ n low H h f as K r Q S has e hK
    have e' : @Option.rec CF (fun _ => RR) none (fun F => callP1 P (callX P D lf d) lf F as H n low K) (compF P D f) = some r := e
    cases hcf : compF P D f with
    | none => rw [hcf] at e'; cases e'
    | some F =>
      rw [hcf] at e'
      have e1 : callP1 P (callX P D lf d) lf F as H n low K = some r := e'
      unfold compF at hcf
      split at hcf
      · rename_i fn hf
        split at hcf
        · rename_i c hb
          rw [fnat_eq] at hcf
          generalize hVe : expC c (resM fn.results.toList) = V at hcf
          cases hro : resOk V fn.results.toList <;> rw [hro] at hcf
          · cases hcf
          · cases hcf
            unfold callP1 at e1
            cases hl : (Nat.ble as.length fn.ntmps && Nat.blt as.length 16383) <;> simp only [hl] at e1
            · cases e1
            · simp only [Bool.and_eq_true] at hl
              have hl1 := Nat.le_of_ble_eq_true hl.1
              have hl2 := blt_lt hl.2
              obtain ⟨E, e2, hE⟩ := putArgs_ok (k := 0) (by omega) e1
              refine ⟨hent f fn c hf hb, fun w0 G w xs hw hx => ?_⟩
              refine calls_of_wp hf hb ?_
              have hxs : xs.size ≤ fn.ntmps := by rw [← hx.1]; simpa using hl1
              have hge : ∀ j, ge E j = lget as j := fun j => by
                rw [hE]
                by_cases hj : j < as.length
                · rw [if_pos ⟨by omega, by omega⟩]; simp
                · rw [if_neg (by omega)]
                  show Tr.get AV.any _ j = _
                  rw [get_full]
                  simp [lget, List.getD_eq_getElem?_getD, Nat.le_of_not_lt hj]
              have hbe : ∀ j, Bd ρ n (ge E j) := fun j => by
                rw [hge]
                by_cases hj : j < as.length
                · have : lget as j ∈ as := by simp [lget, List.getD_eq_getElem?_getD, hj]
                  exact has _ this
                · have : lget as j = .any := by simp [lget, List.getD_eq_getElem?_getD, Nat.le_of_not_lt hj]
                  rw [this]; intro _ _; simp
              have I : CInv b ρ n low V E H (renE ρ (gV' V E)) h := ⟨S, hbe, rfl⟩
              have F : Fr [] w0 G fn.ntmps (renE ρ (gV' V E)) h { tmps := xs ++ Array.replicate (fn.ntmps - xs.size) undef, defers := [] } w := by
                refine ⟨hw, ?_, by simp; omega, rfl⟩
                intro j
                show VR G (ren ρ (gV' V E j)) _
                cases hj : inV V j
                · rw [gV'_out E hj, ren_any]; exact .any _
                · rw [gV'_in E hj, hge, ← lget_map_ren]
                  rcases Nat.lt_or_ge j (as.map (ren ρ)).length with h | h
                  · have := hx.2 j h
                    show VR G _ ((xs ++ Array.replicate (fn.ntmps - xs.size) undef).getD j undef)
                    rw [getD_append_left _ _ _ (by rw [← hx.1]; exact h)]
                    exact this
                  · have : lget (as.map (ren ρ)) j = .any := by simp only [lget, List.getD_eq_getElem?_getD]; rw [List.getElem?_eq_none h]; rfl
                    rw [this]
                    exact .any _
              refine runC_ok hm ih I F e2 ?_
              intro x E' H' n' low' ρ' env' h' G' a' w' ex hx' hG F' I' e3 xe
              have hres : ∀ x ∈ fn.results.toList, match x with | .tmp t => inV V t = true | .cell a _ => inV V a = true := by
                intro x hx
                unfold resOk at hro
                have := List.all_eq_true.1 hro x hx
                cases x <;> exact this
              have fin : (retK P fn.results.toList E' H' fun vs => retE vs fun v => K v H' n' low') = some r → retVals P fn.results.toList env' h' fun vs => retQ Q vs h' := by
                intro e3
                refine retK_okV I' hres e3 fun vs hvs e4 => ?_
                exact retE_ok e4 hvs fun v hv e5 => hK v H' n' low' ρ' h' hx' I'.s hv e5
              cases xe with
              | normal =>
                obtain ⟨v, u, e4, e5, e6⟩ := results_ok F' (fin e3)
                exact ⟨F'.defers, v, e4, v, u, h', G', rfl, hG, F'.wr, e5, e6⟩
              | ret =>
                obtain ⟨v, u, e4, e5, e6⟩ := results_ok F' (fin e3)
                exact ⟨F'.defers, v, e4, v, u, h', G', rfl, hG, F'.wr, e5, e6⟩
              | exit j => cases e3
        · cases hcf
      · cases hcf

/-- A call on what is without objects comes to what the evaluator says. -/
theorem runX_ok (hm : P.follows .mixedOrders = true) (hent : Enters P) {D : FuncId → DHints} {lf depth hd : Nat} {f : FuncId} {as : List AV} (has : ∀ a ∈ as, ∀ ρ : Nat → Nat, ren ρ a = a) {v : AV}
    (e : runX P D lf depth hd f as = some v) (h : Heap) : APure P f as v h := by
  intro h' _
  unfold runX at e
  split at e
  · rename_i u H n low hcall
    rw [frzK_eq] at e
    cases hf : frzF 0 H 100 u with
    | none => rw [hf] at e; cases e
    | some v' =>
      rw [hf] at e
      cases e
      have g0 : ∀ k, gh (Tr.full none hd) k = none := fun k => get_full none hd k
      have S : SInv ⟨h', 0, Tr.full none hd, fun k => k⟩ (fun k => k) 0 0 (Tr.full none hd) h' := ⟨fun k o ho => (by rw [g0] at ho; cases ho), fun j k hj => absurd (g0 j) hj, fun k o ho => (by rw [g0] at ho; cases ho),
        fun _ _ h0 _ => h0, fun _ _ _ => rfl, fun k hk => absurd (g0 k) hk, Nat.le_refl _⟩
      have hmap : as.map (ren fun k => k) = as := list_fix (d := .any) fun i hi => has _ (by simp [List.getD_eq_getElem?_getD, hi]) _
      rw [← hmap]
      refine ACalls.ghost ?_
      refine callX_ok hm hent depth _ _ _ _ _ _ f as _ _ _ S (fun a ha ρ' _ => by rw [has a ha, has a ha]) hcall ?_
      intro v1 H1 n1 low1 ρ1 h1 ex S1 bv e1
      cases e1
      exact ⟨_, h', frz_step S1 (fun k o ho => (by rw [g0] at ho; cases ho)) (Nat.zero_le _) ex.2 (fun q o ho => (by rw [g0] at ho; cases ho)) hf, rfl, rfl⟩
  · cases e

end
end Go.Abs

namespace Go.Abs

section
variable {P : Program} {ops : Array Oper}

theorem oper_wp_monoQ {o : Oper} {a : Act} {w : World} {K K' : Act → World → Prop} {Q Q' : Exit → Act → World → Prop} (h : ∀ a w, K a w → K' a w) (hq : ∀ e a w, e ≠ .normal → Q e a w → Q' e a w)
    (hh : o.wp P a w K Q) : o.wp P a w K' Q' := by
  unfold Oper.wp at *
  generalize (Go.execOp a.eval o).run P w = r at *
  have ho : LetsOut Q → LetsOut Q' := fun ⟨a, w, e⟩ => ⟨a, w, hq _ _ _ (by simp) e⟩
  cases r with
  | ok n w' =>
    cases n <;> simp only [Oper.upon] at hh ⊢ <;>
      first
        | exact h _ _ hh
        | exact Calls.mono hh (fun e w'' he => by cases e <;> first | exact h _ _ he | exact ho he | exact hq _ _ _ (by simp) he)
        | exact Rows.mono hh (fun _ _ he => h _ _ he)
  | halt x w' => cases x <;> simp only [Oper.upon] at hh ⊢ <;> first | exact hq _ _ _ (by simp) hh | exact hh

theorem wpOp_monoQ {i : Nat} {a : Act} {w : World} {K K' : Act → World → Prop} {Q Q' : Exit → Act → World → Prop} (h : ∀ a w, K a w → K' a w) (hq : ∀ e a w, e ≠ .normal → Q e a w → Q' e a w)
    (hh : wpOp P ops Q i K a w) : wpOp P ops Q' i K' a w := by
  unfold wpOp at *
  split
  · exact h _ _ (by simpa [*] using hh)
  · rename_i o ho
    simp only [ho] at hh
    split
    · rename_i hw
      simp only [hw, if_true] at hh
      exact hh.imp (oper_wp_monoQ h hq) fun ⟨h1, a, w, h2⟩ => ⟨h1, a, w, hq _ _ _ (by simp) h2⟩
    · rename_i hw; simp only [hw] at hh; exact h _ _ hh

theorem wpOps_snoc {Q : Exit → Act → World → Prop} {l2 : List Nat} : ∀ {l : List Nat} {a : Act} {w : World}, wpOps P ops (fun e a w => e = .normal ∧ wpOps P ops Q l2 a w) l a w → wpOps P ops Q (l ++ l2) a w := by
  intro l
  induction l with
  | nil => intro a w h; exact h.2
  | cons i l ih =>
    intro a w h
    rw [List.cons_append, wpOps_cons]
    rw [wpOps_cons] at h
    exact wpOp_monoQ (fun a w hh => ih hh) (fun e a w hn hh => absurd hh.1 hn) h

end

/-- Pieces of code, one behind the other. -/
noncomputable def spine (c : Code) : List Code :=
  @Code.rec (fun _ => List Code) [.skip] (fun id ops d => [.region id ops d]) (fun _ _ a b => a ++ b) (fun c x y _ _ => [.cond c x y]) (fun id b _ => [.block id b]) (fun b _ => [.loop b]) (fun f ps x y _ _ => [.rangeFunc f ps x y]) (fun id => [.exit id])
    (fun b _ => [.scope b]) (fun l => [.label l]) (fun l => [.goto l]) [.ret] (fun s => [.refuse s]) c

def seqQ (N : Act → World → Prop) (Q : Exit → Act → World → Prop) : Exit → Act → World → Prop := fun e a w => match e with
  | .normal => N a w
  | e => Q e a w

def wpL (P : Program) : List Code → (Exit → Act → World → Prop) → Act → World → Prop
  | [], Q, a, w => Q .normal a w
  | c :: cs, Q, a, w => c.wp P (seqQ (wpL P cs Q) Q) a w

section
variable {P : Program}

theorem seqQ_mono {N N' : Act → World → Prop} {Q Q' : Exit → Act → World → Prop} (h : ∀ a w, N a w → N' a w) (hq : ∀ e a w, e ≠ .normal → Q e a w → Q' e a w) : ∀ e a w, seqQ N Q e a w → seqQ N' Q' e a w := by
  intro e a w hh
  cases e <;> first | exact h _ _ hh | exact hq _ _ _ (by simp) hh

theorem wpL_mono {l : List Code} : ∀ {Q Q' : Exit → Act → World → Prop} {a : Act} {w : World}, (∀ e a w, Q e a w → Q' e a w) → wpL P l Q a w → wpL P l Q' a w := by
  induction l with
  | nil => intro Q Q' a w h hh; exact h _ _ _ hh
  | cons c l ih => intro Q Q' a w h hh; exact wp_mono hh (seqQ_mono (fun a w hh => ih h hh) (fun e a w _ => h e a w))

theorem wpL_append {l1 l2 : List Code} : ∀ {Q : Exit → Act → World → Prop} {a : Act} {w : World}, wpL P (l1 ++ l2) Q a w → wpL P l1 (seqQ (wpL P l2 Q) Q) a w := by
  induction l1 with
  | nil => intro Q a w h; exact h
  | cons c l ih =>
    intro Q a w h
    refine wp_mono (show c.wp P (seqQ (wpL P (l ++ l2) Q) Q) a w from h) ?_
    refine seqQ_mono (fun a w hh => ih hh) fun e a w hn hh => ?_
    cases e <;> first | exact absurd rfl hn | exact hh

theorem wpL_of_append {l1 l2 : List Code} : ∀ {Q : Exit → Act → World → Prop} {a : Act} {w : World}, wpL P l1 (seqQ (wpL P l2 Q) Q) a w → wpL P (l1 ++ l2) Q a w := by
  induction l1 with
  | nil => intro Q a w h; exact h
  | cons c l ih =>
    intro Q a w h
    refine wp_mono (show c.wp P (seqQ (wpL P l (seqQ (wpL P l2 Q) Q)) (seqQ (wpL P l2 Q) Q)) a w from h) ?_
    refine seqQ_mono (fun a w hh => ih hh) fun e a w hn hh => ?_
    cases e <;> first | exact absurd rfl hn | exact hh

theorem wp_spine : ∀ {c : Code} {Q : Exit → Act → World → Prop} {a : Act} {w : World}, wpL P (spine c) Q a w → c.wp P Q a w := by
  intro c
  induction c with
  | seq x y ihx ihy =>
    intro Q a w h
    have h1 := ihx (wpL_append (show wpL P (spine x ++ spine y) Q a w from h))
    refine wp_seq (wp_mono h1 fun e a w hh => ?_)
    cases e <;> first | exact ihy hh | exact hh
  | _ =>
    intro Q a w h
    refine wp_mono (show Code.wp P _ (seqQ (wpL P [] Q) Q) a w from h) fun e a w hh => ?_
    cases e <;> exact hh

end

/-! Functions that defer one call, in the straight part of their text. -/

structure DF where
  N : Nat
  V : Nat
  pre : List CC
  reg : List CO
  fo : O
  xs : List O
  post : List CC
  tree : ET
  res : List ResultVar

/-- A region whose last operation defers a call. -/
def lastDefer (c : Code) : Option (Nat × List Oper × Oper) := match c with
  | .region id ops false => match ops.toList.getLast? with
    | some o => match o.op with
      | .defer _ => some (id, ops.toList.dropLast, o)
      | _ => none
    | none => none
  | _ => none

/-- The part ahead, the operations ahead of the deferred call, that call, the part behind. -/
noncomputable def splitD (l : List Code) : Option (List Code × Nat × List Oper × Oper × List Code) :=
  @List.rec Code (fun _ => Option (List Code × Nat × List Oper × Oper × List Code)) none (fun c rest ih =>
    match lastDefer c with
    | some (id, ini, o) => some ([], id, ini, o, rest)
    | none => ih.bind fun (pre, x) => some (c :: pre, x)) l

noncomputable def compDF (P : Program) (D : FuncId → DHints) (f : FuncId) : Option DF := match P.funcs[f]? with
  | some fn => match fn.body with
    | some c => match splitD (spine c) with
      | some (pre, _, ini, o, post) => match o.op with
        | .defer call => match call.callee with
          | .value fv => fnat (call.args.toList.foldl (expO 0) (expO 0 (expC c (resM fn.results.toList)) fv)) fun V =>
            bif resOk V fn.results.toList && slotsOk fn.ntmps (ini ++ [o]) && o.guard.isNone && o.dst.isNone then
              (compL P V (ini ++ [o]) (ini.map fun o => (modeE P o.op, o)) [] 0).bind fun reg =>
              opO V [] 0 fv fun fo => opOs V [] 0 call.args.toList fun xs =>
              some { N := fn.ntmps, V := V, pre := pre.map (compC P (D f) fn.ntmps V), reg := reg, fo := fo, xs := xs, post := post.map (compC P (D f) fn.ntmps V), tree := Tr.full .any (Nat.succ (Nat.log2 (Nat.succ fn.ntmps))), res := fn.results.toList }
            else none
          | _ => none
        | _ => none
      | none => none
    | none => none
  | none => none

noncomputable def runL (P : Program) (C : CallF) (lf : Nat) (l : List CC) : ET → HT → Nat → Nat → KX → RR :=
  @List.rec CC (fun _ => ET → HT → Nat → Nat → KX → RR) (fun E H n low K => K .normal E H n low) (fun c _ ih E H n low K => runC P C lf c E H n low (cSeq ih K)) l

/-- A call that is no deferring function's. -/
noncomputable def callN (P : Program) (D : FuncId → DHints) (lf : Nat) (C : CallF) : CallF := fun f as H n low K => match compF P D f with
  | some F => callP1 P C lf F as H n low K
  | none => none

noncomputable def retD (P : Program) (C : CallF) (fid : FuncId) (as : List AV) (res : List ResultVar) (K : KV) (x : AExit) : ET → HT → Nat → Nat → RR :=
  @AExit.rec (fun _ => ET → HT → Nat → Nat → RR) (fun E H n low => C fid as H n low fun _ H n low => retK P res E H fun vs => retE vs fun v => K v H n low) (fun _ _ _ _ _ => none)
    (fun E H n low => C fid as H n low fun _ H n low => retK P res E H fun vs => retE vs fun v => K v H n low) x

noncomputable def atD (P : Program) (D : FuncId → DHints) (C : CallF) (lf : Nat) (F : DF) (K : KV) (x : AExit) : ET → HT → Nat → Nat → RR :=
  @AExit.rec (fun _ => ET → HT → Nat → Nat → RR) (fun E H n low => rOps P C F.reg [] E H n low fun _ E H n low => gO F.fo [] E fun fv => argsK [] E F.xs fun as => match callee fv as with
      | some (fid, as) => runL P C lf F.post E H n low (retD P (callN P D lf C) fid as F.res K)
      | none => none) (fun _ _ _ _ _ => none) (fun _ _ _ _ => none) x

noncomputable def callD1 (P : Program) (D : FuncId → DHints) (C : CallF) (lf : Nat) (F : DF) (as : List AV) (H : HT) (n low : Nat) (K : KV) : RR :=
  @Bool.rec (fun _ => RR) none (putArgs as F.tree fun E => runL P C lf F.pre E H n low (atD P D C lf F K)) (Nat.ble as.length F.N && Nat.blt as.length 16383)

/-- What is told of calls of some functions without running them. -/
abbrev Oracle := FuncId → Option (List AV → Heap → Option AV)

noncomputable def orK (g : List AV → Heap → Option AV) (as : List AV) (H : HT) (n low : Nat) (K : KV) : RR := match g as (gh H) with
  | some v => fD v fun v => K v H n low
  | none => none

noncomputable def callY (P : Program) (D : FuncId → DHints) (W : Oracle) (lf : Nat) (depth : Nat) : CallF :=
  @Nat.rec (fun _ => CallF) (fun _ _ _ _ _ _ => none)
    (fun _ C f as H n low K => @Option.rec (List AV → Heap → Option AV) (fun _ => RR)
      (@Option.rec DF (fun _ => RR) (callN P D lf C f as H n low K) (fun F => callD1 P D C lf F as H n low K) (compDF P D f)) (fun g => orK g as H n low K) (W f)) depth

noncomputable def runY (P : Program) (D : FuncId → DHints) (W : Oracle) (lf depth hd : Nat) (f : FuncId) (as : List AV) : Option AV :=
  match callY P D W lf depth f as (Tr.full none hd) 0 0 (fun v H n low => some (v, H, n, low)) with
  | some (v, H, _, _) => frzK 0 H 100 v some
  | none => none

end Go.Abs
