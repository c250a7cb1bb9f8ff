/- By an AI agent. Part of the proof: an abstract machine over the model, an evaluator over it, and contracts. Texts: FindA, FindB, FindC, FindD. -/
import Derived.RangeFuncBox
import Derived.RangeFuncLeaves
import Derived.RangeFuncStops
import Derived.Shelf.Abstract
import Derived.WalkKit
import Derived.OwnWalkIn
import Derived.TacticsInMore
import Derived.RegionIn
import Derived.LoopNIn
import Derived.LoopIn
import Derived.Test.YtldbohhdpbmdcaaGreatDoorProg
import Derived.RangeFuncNested
import Derived.Test.YtldbohhdpbmdcaaGreatDoorP08
import Derived.Shelf.Lay
import Derived.Shelf.Strings.Search1
import Derived.Shelf.LaysM

namespace Go.Proofs.YtldbohhdpbmdcaaGreatDoor
open Go Go.RowKit Go.Shelf

attribute [local go_sem] Oper.semAt_some

set_option maxRecDepth 100000 in
set_option maxHeartbeats 4000000 in
/-- slices.Backward's closure. -/
theorem back1_in (F : Fence) (n : Nat) (h7 : F.fn 141) (hro : F.round = none) (hn : 1 ≤ n) (l Bs n₀ b off len cap : Nat) (zs : Nat → Value) (hreach : len * 8 ≤ 140737488351232) (hb : b < n₀) (hB : Bs < n₀) (J Jx : Nat → World → Prop)
    (hY : ∀ k r W, k + r + 1 = len → J r W → YieldAt F (n - 1) Tryz.prog l #[.int .i64 (k : Int), zs k] W fun e W' =>
      (e = .returned (.bool true) ∧ J (r + 1) W' ∧ Below n₀ W W') ∨ (e = .returned (.bool false) ∧ Jx r W'))
    (W : World) (hBs : W.cell? ⟨Bs, 0, none⟩ = some (.slice (some ⟨b, off, none⟩) len cap)) (hc : ∀ j, j < len → W.cell? ⟨b, off + j, none⟩ = some (zs j)) (h0 : J 0 W) :
    CallsIn F n Tryz.prog 141 #[.func (.yield l) #[] #[], .pointer (some ⟨Bs, 0, none⟩)] W fun e W' => (∃ v, e = .returned v) ∧ (J len W' ∨ ∃ r, r < len ∧ Jx r W') := by
  refine callsIn_of_wp Tryz.func141 rfl h7 ?_ hro
  simp only [Tryz.ntmps141, List.size_toArray, List.length_cons, List.length_nil, Nat.reduceAdd, Nat.reduceSub, Array.replicate_succ, Array.replicate_zero, List.push_toArray, List.append_toArray, List.nil_append, List.cons_append]
  gi_wp2
  gi_loopw [3] (fun i wr => ∃ r : Nat, r ≤ len ∧ i = .int .i64 ((len : Int) - 1 - r) ∧ J r wr ∧ Below n₀ W wr)
    (fun i _ => (intOf i + 1).toNat)
  case atStart => exact ⟨0, Nat.zero_le _, by simp, h0, Below.refl _ _⟩
  case round =>
    obtain ⟨r, hr, rfl, hJs, hnx⟩ := hrel
    have hcb : wr.cell? ⟨Bs, 0, none⟩ = some (.slice (some ⟨b, off, none⟩) len cap) := (hnx.cell (p := ⟨Bs, 0, none⟩) hB).trans hBs
    by_cases hlt : r < len
    · obtain ⟨k, hk⟩ : ∃ k, k + r + 1 = len := ⟨len - 1 - r, by omega⟩
      have e : ((len : Int) - 1 - r) = (k : Int) := by omega
      have e2 : ((len : Int) - 1 - ((r + 1 : Nat) : Int)) = (k : Int) - 1 := by omega
      rw [e]
      have hcx : wr.cell? ⟨b, off + k, none⟩ = some (zs k) := (hnx.cell (p := ⟨b, off + k, none⟩) hb).trans (hc k (by omega))
      obtain ⟨fn, tmps, assign, body, hy, hR⟩ := hY k r wr hk hJs
      have hkl : k < len := by omega
      have hk0 : (0 : Int) ≤ (k : Int) := by omega
      clear e
      gi_wp2
      refine hR.mono ?_
      rintro e W3 (⟨rfl, hJ3, hk3⟩ | ⟨rfl, hJx3⟩)
      · gi_wp2
        go_roundw
        case rel => exact ⟨r + 1, by omega, by rw [e2]; try rfl, hJ3, hnx.trans hk3⟩
        case measure => simp [intOf]
      · gi_wp2
        refine bodyPost_ret (results_none rfl _ _ _) rfl ?_
        exact ⟨⟨_, rfl⟩, .inr ⟨r, hlt, hJx3⟩⟩
    · obtain rfl : r = len := by omega
      have hneg : ((r : Int) - 1 - r) = -1 := by omega
      rw [hneg]
      gi_wp2
      go_end0
      exact ⟨⟨_, rfl⟩, .inl hJs⟩
end Go.Proofs.YtldbohhdpbmdcaaGreatDoor

namespace Go.Proofs.YtldbohhdpbmdcaaGreatDoor
open Go Go.RowKit Go.Shelf

attribute [local go_sem] Oper.semAt_some

/-- len-1, len-2, ..: the first r of them. -/
def downs (len : Nat) : Nat → List Nat
  | 0 => []
  | r + 1 => downs len r ++ [len - 1 - r]
theorem downs_length (len r : Nat) : (downs len r).length = r := by
  induction r with
  | zero => rfl
  | succ r ih => simp [downs, ih]

set_option maxRecDepth 100000 in
set_option maxHeartbeats 1000000 in
/-- .. at a slice without elements: no round. -/
theorem back1_nil_in (F : Fence) (n : Nat) (h7 : F.fn 141) (hro : F.round = none) (l Bs : Nat) (a : Option Addr) (cap : Nat) (J : World → Prop) (W : World) (hBs : W.cell? ⟨Bs, 0, none⟩ = some (.slice a 0 cap)) (h0 : J W) :
    CallsIn F n Tryz.prog 141 #[.func (.yield l) #[] #[], .pointer (some ⟨Bs, 0, none⟩)] W fun e W' => (∃ v, e = .returned v) ∧ J W' := by
  refine callsIn_of_wp Tryz.func141 rfl h7 ?_ hro
  simp only [Tryz.ntmps141, List.size_toArray, List.length_cons, List.length_nil, Nat.reduceAdd, Nat.reduceSub, Array.replicate_succ, Array.replicate_zero, List.push_toArray, List.append_toArray, List.nil_append, List.cons_append]
  gi_wp2
  gi_loopw [3] (fun i wr => i = .int .i64 (-1) ∧ J wr) (fun _ _ => 0)
  case atStart => exact ⟨by simp, h0⟩
  case round =>
    obtain ⟨rfl, hJs⟩ := hrel
    gi_wp2
    go_end0
    exact ⟨⟨_, rfl⟩, hJs⟩

set_option maxHeartbeats 1000000 in
/-- **slices.Backward(s)**: the slice value is boxed; the function value captures the box. -/
theorem back_in (F : Fence) (n : Nat) (h5 : F.fn 118) (hro : F.round = none) (a : Option Addr) (len cap : Nat) (w : World) :
    CallsIn F n Tryz.prog 118 #[.slice a len cap] w fun e w' => e = .returned (.func (.func 141) #[] #[.pointer (some ⟨w.heap.size, 0, none⟩)]) ∧ w' = w.alloc (.cells #[.slice a len cap] 74) := by
  refine callsIn_of_wp Tryz.func118 rfl h5 ?_ hro
  simp only [Tryz.ntmps118, List.size_toArray, List.length_cons, List.length_nil, Nat.reduceAdd, Nat.reduceSub, Array.replicate_succ, Array.replicate_zero, List.push_toArray, List.append_toArray, List.nil_append, List.cons_append]
  gi_wp2
  go_ret
  exact ⟨rfl, rfl⟩

/-- THE SLICE VALUE sv HOLDS zs 0 .. zs (len - 1), in a block below n₀. -/
def Held (n₀ : Nat) (W : World) (sv : Value) (len : Nat) (zs : Nat → Value) : Prop :=
  (len = 0 ∧ ∃ a cap, sv = .slice a 0 cap) ∨ ∃ b off cap, sv = .slice (some ⟨b, off, none⟩) len cap ∧ b < n₀ ∧ ∀ j, j < len → W.cell? ⟨b, off + j, none⟩ = some (zs j)
theorem Held.below {n₀ : Nat} {A B : World} (h : Below n₀ A B) {sv : Value} {len : Nat} {zs : Nat → Value} : Held n₀ A sv len zs → Held n₀ B sv len zs
  | .inl e => .inl e
  | .inr ⟨b, off, cap, e, hb, hc⟩ => .inr ⟨b, off, cap, e, hb, fun j hj => (h.cell (p := ⟨b, off + j, none⟩) hb).trans (hc j hj)⟩

theorem Held.up {n₀ n₁ : Nat} (h : n₀ ≤ n₁) {A : World} {sv : Value} {len : Nat} {zs : Nat → Value} : Held n₀ A sv len zs → Held n₁ A sv len zs
  | .inl e => .inl e
  | .inr ⟨b, off, cap, e, hb, hc⟩ => .inr ⟨b, off, cap, e, by omega, hc⟩

theorem back_stops (F : Fence) (n : Nat) (h7 : F.fn 141) (hro : F.round = none) (hn : 1 ≤ n) (Bs n₀ : Nat) (sv : Value) (len : Nat) (zs : Nat → Value) (hreach : len * 8 ≤ 140737488351232) (w : World) (hBs : Bs < n₀) (hn₀ : n₀ ≤ w.heap.size)
    (hc : w.cell? ⟨Bs, 0, none⟩ = some sv) (hI : Held n₀ w sv len zs) :
    SeqStopsK F n Tryz.prog 141 #[.pointer (some ⟨Bs, 0, none⟩)] (fun k : Fin len => #[Value.int .i64 ((k : Nat) : Int), zs k]) (Below n₀) (fun ys => ys.map Fin.val = downs len len)
      (fun pre => ∃ r, r < len ∧ pre.map Fin.val = downs len (r + 1)) len w := fun l J Jx W hW _ _ hY h0 => by
  have hc' := (hW.cell (p := ⟨Bs, 0, none⟩) (by show Bs < _; omega)).trans hc
  rcases hI.below (hW.mono hn₀) with ⟨rfl, a, cap, rfl⟩ | ⟨b, off, cap, rfl, hb, hcs⟩
  · exact (back1_nil_in F n h7 hro l Bs a cap (J []) W hc' h0).mono fun e W' ⟨he, hj⟩ => ⟨he, .inl ⟨_, rfl, hj⟩⟩
  · refine (back1_in F n h7 hro hn l Bs n₀ b off len cap zs hreach hb hBs (fun r W => ∃ ys : List (Fin len), ys.map Fin.val = downs len r ∧ J ys W) (fun r W => ∃ ys : List (Fin len), ys.map Fin.val = downs len (r + 1) ∧ Jx ys W) ?_ W hc' hcs ⟨[], rfl, h0⟩).mono ?_
    · rintro k r W1 hk ⟨ys, hys, hJ⟩
      have hkl : k < len := by omega
      have e : len - 1 - r = k := by omega
      have hyl : ys.length = r := by rw [← downs_length len r, ← hys, List.length_map]
      obtain ⟨fn, tmps, assign, body, hy, hR⟩ := hY ys ⟨k, hkl⟩ W1 hJ (by omega)
      refine ⟨fn, tmps, assign, body, hy, hR.mono fun e' W' h => ?_⟩
      have hd : (ys ++ [(⟨k, hkl⟩ : Fin len)]).map Fin.val = downs len (r + 1) := by simp [downs, hys, e]
      rcases h with ⟨rfl, hj, hb'⟩ | ⟨rfl, hj⟩
      · exact .inl ⟨rfl, ⟨_, hd, hj⟩, hb'⟩
      · exact .inr ⟨rfl, _, hd, hj⟩
    · rintro e W' ⟨he, ⟨ys, hys, hj⟩ | ⟨r, hr, ys, hys, hj⟩⟩
      · exact ⟨he, .inl ⟨ys, hys, hj⟩⟩
      · exact ⟨he, .inr ⟨ys, ⟨r, hr, hys⟩, hj⟩⟩

def findDown (look : Nat → Int × Int × Bool) : Nat → Int × Int × Bool
  | 0 => (0, 0, false)
  | k + 1 => if (look k).2.2 = true then look k else findDown look k
theorem findDown_miss (look : Nat → Int × Int × Bool) (len : Nat) : ∀ r, r ≤ len → (∀ j ∈ downs len r, (look j).2.2 = false) → findDown look len = findDown look (len - r) := by
  intro r
  induction r with
  | zero => intro _ _; rfl
  | succ r ih =>
    intro hr h
    rw [ih (by omega) (fun j hj => h j (List.mem_append.2 (.inl hj)))]
    have hm := h (len - 1 - r) (List.mem_append.2 (.inr (by simp)))
    obtain ⟨k, hk⟩ : ∃ k, len - r = k + 1 := ⟨len - 1 - r, by omega⟩
    have e1 : len - 1 - r = k := by omega
    have e2 : len - (r + 1) = k := by omega
    rw [hk, e2]
    rw [e1] at hm
    simp [findDown, hm]
theorem findDown_all (look : Nat → Int × Int × Bool) (len : Nat) (ys : List (Fin len)) (hys : ys.map Fin.val = downs len len) (h : ∀ k ∈ ys, (look k).2.2 = false) : findDown look len = (0, 0, false) := by
  rw [findDown_miss look len len (Nat.le_refl _) (fun j hj => by rw [← hys] at hj; obtain ⟨k, hk, rfl⟩ := List.mem_map.1 hj; exact h k hk), Nat.sub_self]
  rfl
theorem findDown_hit (look : Nat → Int × Int × Bool) (len r : Nat) (hr : r < len) (ini : List (Fin len)) (k : Fin len) (hys : (ini ++ [k]).map Fin.val = downs len (r + 1)) (h : ∀ k ∈ ini, (look k).2.2 = false) (hk : (look k).2.2 = true) : findDown look len = look k := by
  rw [List.map_append] at hys
  obtain ⟨h1, h2⟩ := List.append_inj' hys rfl
  simp at h2
  rw [findDown_miss look len r (by omega) (fun j hj => by rw [← h1] at hj; obtain ⟨k, hk, rfl⟩ := List.mem_map.1 hj; exact h k hk)]
  obtain ⟨m, hm⟩ : ∃ m, len - r = m + 1 := ⟨len - 1 - r, by omega⟩
  have e : (k : Nat) = m := by omega
  rw [hm, ← e]
  simp [findDown, hk]

theorem heap_set3 (W : World) (b : Nat) (u v x : Value) (k : Nat) (h1 : k ≠ b + 1) (h2 : k ≠ b + 1 + 1) (h3 : k ≠ b + 1 + 1 + 1) :
    (((W.setCell ⟨b + 1, 0, none⟩ u).setCell ⟨b + 1 + 1, 0, none⟩ v).setCell ⟨b + 1 + 1 + 1, 0, none⟩ x).heap[k]? = W.heap[k]? :=
  (Below.heap_setCell _ _ _ _ h3).trans ((Below.heap_setCell _ _ _ _ h2).trans (Below.heap_setCell _ _ _ _ h1))

theorem cell_set3 (W : World) (b : Nat) (u v x : Value) (h1 : (W.cell? ⟨b + 1, 0, none⟩).isSome) (h2 : (W.cell? ⟨b + 1 + 1, 0, none⟩).isSome) (h3 : (W.cell? ⟨b + 1 + 1 + 1, 0, none⟩).isSome) :
    (((W.setCell ⟨b + 1, 0, none⟩ u).setCell ⟨b + 1 + 1, 0, none⟩ v).setCell ⟨b + 1 + 1 + 1, 0, none⟩ x).drew.cell? ⟨b + 1, 0, none⟩ = some u ∧
    (((W.setCell ⟨b + 1, 0, none⟩ u).setCell ⟨b + 1 + 1, 0, none⟩ v).setCell ⟨b + 1 + 1 + 1, 0, none⟩ x).drew.cell? ⟨b + 1 + 1, 0, none⟩ = some v ∧
    (((W.setCell ⟨b + 1, 0, none⟩ u).setCell ⟨b + 1 + 1, 0, none⟩ v).setCell ⟨b + 1 + 1 + 1, 0, none⟩ x).drew.cell? ⟨b + 1 + 1 + 1, 0, none⟩ = some x := by
  have k : ∀ (A : World) (c d : Nat) (y : Value), d ≠ c → (A.setCell ⟨c, 0, none⟩ y).cell? ⟨d, 0, none⟩ = A.cell? ⟨d, 0, none⟩ := fun A c d y h => World.cell?_of_block (Below.heap_setCell _ _ _ _ h)
  refine ⟨?_, ?_, ?_⟩
  · show World.cell? (World.setCell _ _ _) _ = _
    rw [k _ _ _ _ (by omega), k _ _ _ _ (by omega)]
    exact World.cell?_setCell_same' _ _ _ h1
  · show World.cell? (World.setCell _ _ _) _ = _
    rw [k _ _ _ _ (by omega)]
    exact World.cell?_setCell_same' _ _ _ (by rw [k _ _ _ _ (by omega)]; exact h2)
  · exact World.cell?_setCell_same' _ _ _ (by rw [k _ _ _ _ (by omega), k _ _ _ _ (by omega)]; exact h3)

theorem cell_lt {w : World} {p : Addr} {v : Value} (h : w.cell? p = some v) : p.block < w.heap.size := by
  unfold World.cell? at h
  cases e : w.heap[p.block]? with
  | none => rw [e] at h; cases h
  | some o => exact (Array.getElem?_eq_some_iff.1 e).1

set_option maxRecDepth 100000 in
set_option maxHeartbeats 2000000 in
theorem Find_in (F : Fence) (n : Nat) (h3 : F.fn 88) (h5 : F.fn 118) (h7 : F.fn 141) (hro : F.round = none) (hn : 3 ≤ n) (b0 o0 : Nat) (nm : ByteArray) (sa : Option Addr) (len cap : Nat) (zs : Nat → Value) (look : Nat → Int × Int × Bool) (hreach : len * 8 ≤ 140737488351232) (w : World)
    (hs : w.cell? ⟨b0, o0, none⟩ = some (.slice sa len cap)) (hI : Held w.heap.size w (.slice sa len cap) len zs)
    (hl : ∀ k, k < len → ∀ W, Below w.heap.size w W → (Instr.lookup 114 (zs k) (.string nm) true).run Tryz.prog W = .ok (.tuple #[.agg #[.int .u8 (look k).1, .int .i64 (look k).2.1], .bool (look k).2.2]) W) :
    CallsIn F n Tryz.prog 88 #[.pointer (some ⟨b0, o0, none⟩), .string nm] w fun e W' => e = .returned (.tuple #[.int .u8 (findDown look len).1, .int .i64 (findDown look len).2.1, .bool (findDown look len).2.2]) ∧ Below w.heap.size w W' := by
  have h1 : 1 ≤ n := by omega
  refine callsIn_of_wp_marks Tryz.func88 rfl h3 ?_ hro
  simp only [Tryz.ntmps88, List.size_toArray, List.length_cons, List.length_nil, Nat.reduceAdd, Nat.reduceSub, Array.replicate_succ, Array.replicate_zero, List.push_toArray, List.append_toArray, List.nil_append, List.cons_append]
  have hb : b0 < w.heap.size := cell_lt hs
  have hB4 : Below w.heap.size w ((((w.alloc (.cells #[.string nm] 9)).alloc (.cells #[.int .u8 0] 46)).alloc (.cells #[.int .i64 0] 3)).alloc (.cells #[.bool false] 4)) :=
    ((((Below.refl _ w).alloc (Nat.le_refl _) _).alloc (by simp) _).alloc (by simp; omega) _).alloc (by simp; omega) _
  have hs4 := (hB4.cell (p := ⟨b0, o0, none⟩) hb).trans hs
  gi_wp2_with (gi_at_call 118; refine (back_in F (n - 1) h5 hro _ _ _ _).mono ?_; rintro e w' ⟨rfl, rfl⟩)
  have hs5 : (((((w.alloc (.cells #[.string nm] 9)).alloc (.cells #[.int .u8 0] 46)).alloc (.cells #[.int .i64 0] 3)).alloc (.cells #[.bool false] 4)).alloc (.cells #[.slice sa len cap] 74)).heap.size = w.heap.size + 5 := by simp
  have hB5 : Below w.heap.size w (((((w.alloc (.cells #[.string nm] 9)).alloc (.cells #[.int .u8 0] 46)).alloc (.cells #[.int .i64 0] 3)).alloc (.cells #[.bool false] 4)).alloc (.cells #[.slice sa len cap] 74)) := hB4.alloc (by simp; omega) _
  have b3 := ((((Boxed.new w 9 (.string nm)).alloc (.cells #[.int .u8 0] 46)).alloc (.cells #[.int .i64 0] 3)).alloc (.cells #[.bool false] 4)).alloc (.cells #[.slice sa len cap] 74)
  have b4 := (((Boxed.new (w.alloc (.cells #[.string nm] 9)) 46 (.int .u8 0)).alloc (.cells #[.int .i64 0] 3)).alloc (.cells #[.bool false] 4)).alloc (.cells #[.slice sa len cap] 74)
  have b5 := ((Boxed.new ((w.alloc (.cells #[.string nm] 9)).alloc (.cells #[.int .u8 0] 46)) 3 (.int .i64 0)).alloc (.cells #[.bool false] 4)).alloc (.cells #[.slice sa len cap] 74)
  have b6 := (Boxed.new (((w.alloc (.cells #[.string nm] 9)).alloc (.cells #[.int .u8 0] 46)).alloc (.cells #[.int .i64 0] 3)) 4 (.bool false)).alloc (.cells #[.slice sa len cap] 74)
  have bN := Boxed.new ((((w.alloc (.cells #[.string nm] 9)).alloc (.cells #[.int .u8 0] 46)).alloc (.cells #[.int .i64 0] 3)).alloc (.cells #[.bool false] 4)) 74 (.slice sa len cap)
  simp only [World.size_alloc] at b4 b5 b6 bN
  generalize (((((w.alloc (.cells #[.string nm] 9)).alloc (.cells #[.int .u8 0] 46)).alloc (.cells #[.int .i64 0] 3)).alloc (.cells #[.bool false] 4)).alloc (.cells #[.slice sa len cap] 74)) = w5 at *
  refine wpIn_rangeFunc_ownG hro h1 (gf := 141) (lb := #[.pointer (some ⟨w.heap.size + 1 + 1 + 1 + 1, 0, none⟩)]) rfl h7 (enters_of Tryz.func141 (by kernel_rfl) rfl)
    (back_stops F (n - 1) h7 hro (by omega) (w.heap.size + 1 + 1 + 1 + 1) w5.heap.size _ len zs hreach w5 (by omega) (Nat.le_refl _) bN.cell ((hI.below hB5).up (by omega))) belowK_t (belowK_b (Nat.le_refl _)) (Below.refl _ _) (fun _ => rfl)
    (fun (pre : List (Fin len)) W => (∀ k ∈ pre, (look k).2.2 = false) ∧ Below w5.heap.size w5 W)
    (fun c (pre : List (Fin len)) W => (c = .ret ∧ ∃ (ini : List (Fin len)) (k : Fin len), pre = ini ++ [k] ∧ (∀ j ∈ ini, (look j).2.2 = false) ∧ (look k).2.2 = true ∧ W.cell? ⟨w.heap.size + 1, 0, none⟩ = some (.int .u8 (look k).1) ∧ W.cell? ⟨w.heap.size + 1 + 1, 0, none⟩ = some (.int .i64 (look k).2.1) ∧
      W.cell? ⟨w.heap.size + 1 + 1 + 1, 0, none⟩ = some (.bool true)) ∧ Below w.heap.size w W)
    ?ownI ?ownIx ⟨by simp, Below.refl _ _⟩
    (fun (k : Fin len) => { tmps := #[.pointer (some ⟨b0, o0, none⟩), .string nm, undef, .pointer (some ⟨w.heap.size, 0, none⟩), .pointer (some ⟨w.heap.size + 1, 0, none⟩), .pointer (some ⟨w.heap.size + 1 + 1, 0, none⟩), .pointer (some ⟨w.heap.size + 1 + 1 + 1, 0, none⟩), undef, zs k, undef, undef,
      .pointer (some ⟨b0, o0, none⟩), .bool false, .pointer (some ⟨b0, o0, none⟩), .pointer (some ⟨b0, o0, none⟩), .pointer (some ⟨b0, o0, none⟩), .slice sa len cap, .func (.func 141) #[] #[.pointer (some ⟨w.heap.size + 1 + 1 + 1 + 1, 0, none⟩)],
      .int .i64 ((k : Nat) : Int), zs k, undef, undef, undef, undef, undef, undef, undef, undef, undef, undef, undef], defers := [] }) ?assign ?body ?done ?stop
  case ownI =>
    exact OwnFrom.and (ownFrom_pure _ (fun (pre : List (Fin len)) => ∀ k ∈ pre, (look k).2.2 = false)) (ownFrom_below (Nat.le_refl _) (Nat.le_refl _))
  case ownIx =>
    intro c
    refine OwnFrom.and (Own.from (fun s A B row hs hg hr => ?_) _) (ownFrom_below (Nat.le_refl _) (by omega))
    obtain ⟨hc, ini, last, e1, e2, e3, e4, e5, e6⟩ := hs
    exact ⟨hc, ini, last, e1, e2, e3, cell_kept e4 hg hr, cell_kept e5 hg hr, cell_kept e6 hg hr⟩
  case assign =>
    intro l x W K hK
    gi_wp2
    exact hK
  case body =>
    rintro l pre x W ⟨hp, hB⟩ hlen
    have hlk := hl x x.2 W (hB5.trans (hB.mono hB5.size))
    have c3 := (hB.cell (p := ⟨w.heap.size, 0, none⟩) (by show w.heap.size < _; omega)).trans b3.cell
    have c4 := (hB.cell (p := ⟨w.heap.size + 1, 0, none⟩) (by show w.heap.size + 1 < _; omega)).trans b4.cell
    have c5 := (hB.cell (p := ⟨w.heap.size + 1 + 1, 0, none⟩) (by show w.heap.size + 1 + 1 < _; omega)).trans b5.cell
    have c6 := (hB.cell (p := ⟨w.heap.size + 1 + 1 + 1, 0, none⟩) (by show w.heap.size + 1 + 1 + 1 < _; omega)).trans b6.cell
    have f4 := (hB.frozen (p := ⟨w.heap.size + 1, 0, none⟩) (by show w.heap.size + 1 < _; omega)).trans b4.frozen
    have f5 := (hB.frozen (p := ⟨w.heap.size + 1 + 1, 0, none⟩) (by show w.heap.size + 1 + 1 < _; omega)).trans b5.frozen
    have f6 := (hB.frozen (p := ⟨w.heap.size + 1 + 1 + 1, 0, none⟩) (by show w.heap.size + 1 + 1 + 1 < _; omega)).trans b6.frozen
    have hsz : w5.heap.size ≤ W.heap.size := hB.size
    gi_wp2
    · obtain ⟨W2, hW2⟩ : ∃ W2, W.alloc (.cells #[.int .u8 (look x).1, .int .i64 (look x).2.1] 168) = W2 := ⟨_, rfl⟩
      have hB2 : Below W.heap.size W W2 := by rw [← hW2]; exact (Below.refl _ W).alloc (Nat.le_refl _) _
      have c9 : W2.cell? ⟨W.heap.size, 0, none⟩ = some (.int .u8 (look x).1) := by rw [← hW2]; simp [go_sem]
      have c9' : W2.cell? ⟨W.heap.size, 1, none⟩ = some (.int .i64 (look x).2.1) := by rw [← hW2]; simp [go_sem]
      have hsz2 : W.heap.size ≤ W2.heap.size := hB2.size
      have n4 : w.heap.size + 1 ≠ W.heap.size := by omega
      have n5 : w.heap.size + 1 + 1 ≠ W.heap.size := by omega
      have n6 : w.heap.size + 1 + 1 + 1 ≠ W.heap.size := by omega
      replace c4 := (hB2.cell (p := ⟨w.heap.size + 1, 0, none⟩) (by show w.heap.size + 1 < _; omega)).trans c4
      replace c5 := (hB2.cell (p := ⟨w.heap.size + 1 + 1, 0, none⟩) (by show w.heap.size + 1 + 1 < _; omega)).trans c5
      replace c6 := (hB2.cell (p := ⟨w.heap.size + 1 + 1 + 1, 0, none⟩) (by show w.heap.size + 1 + 1 + 1 < _; omega)).trans c6
      replace f4 := (hB2.frozen (p := ⟨w.heap.size + 1, 0, none⟩) (by show w.heap.size + 1 < _; omega)).trans f4
      replace f5 := (hB2.frozen (p := ⟨w.heap.size + 1 + 1, 0, none⟩) (by show w.heap.size + 1 + 1 < _; omega)).trans f5
      replace f6 := (hB2.frozen (p := ⟨w.heap.size + 1 + 1 + 1, 0, none⟩) (by show w.heap.size + 1 + 1 + 1 < _; omega)).trans f6
      rw [hW2]
      have d := cell_set3 W2 w.heap.size (.int .u8 (look x).1) (.int .i64 (look x).2.1) (.bool true) (by rw [c4]; rfl) (by rw [c5]; rfl) (by rw [c6]; rfl)
      have hBf : Below w.heap.size w (((W2.setCell ⟨w.heap.size + 1, 0, none⟩ (.int .u8 (look x).1)).setCell ⟨w.heap.size + 1 + 1, 0, none⟩ (.int .i64 (look x).2.1)).setCell ⟨w.heap.size + 1 + 1 + 1, 0, none⟩ (.bool true)).drew :=
        (((((hB5.trans (hB.mono hB5.size)).trans (hB2.mono (by omega))).setCell (p := ⟨w.heap.size + 1, 0, none⟩) (by show _ ≤ w.heap.size + 1; omega) _).setCell (p := ⟨w.heap.size + 1 + 1, 0, none⟩) (by show _ ≤ w.heap.size + 1 + 1; omega) _).setCell (p := ⟨w.heap.size + 1 + 1 + 1, 0, none⟩) (by show _ ≤ w.heap.size + 1 + 1 + 1; omega) _).drew
      have hkf : KeepsFrom w5.heap.size W (((W2.setCell ⟨w.heap.size + 1, 0, none⟩ (.int .u8 (look x).1)).setCell ⟨w.heap.size + 1 + 1, 0, none⟩ (.int .i64 (look x).2.1)).setCell ⟨w.heap.size + 1 + 1 + 1, 0, none⟩ (.bool true)).drew :=
        ⟨Nat.le_trans hsz2 (Nat.le_of_eq (by show W2.heap.size = (World.setCell _ _ _).heap.size; simp [World.size_setCell])), fun k o hk h _ => (heap_set3 W2 w.heap.size _ _ _ k (by omega) (by omega) (by omega)).trans ((hB2.block k (Array.getElem?_eq_some_iff.1 h).1).trans h)⟩
      have hit : (look x).2.2 = true := by assumption
      clear hW2 hB2 hB4 hs4 hI hs
      gi_region
      all_goals gi_wp2
      all_goals exact ⟨hkf, ⟨rfl, pre, x, rfl, hp, hit, d.1, d.2.1, d.2.2⟩, hBf⟩
    · exact ⟨⟨by simp, fun k o hk h _ => (Below.heap_alloc _ _ _ (Array.getElem?_eq_some_iff.1 h).1).trans h⟩, (Below.refl _ W).alloc hsz _, fun k hk => (List.mem_append.1 hk).elim (hp k) (fun e => by simp at e; subst e; assumption), hB.alloc hsz _⟩
  case done =>
    rintro D ys W hD hys ⟨hne, hB⟩ hK
    have c4 := (hB.cell (p := ⟨w.heap.size + 1, 0, none⟩) (by show w.heap.size + 1 < _; omega)).trans b4.cell
    have c5 := (hB.cell (p := ⟨w.heap.size + 1 + 1, 0, none⟩) (by show w.heap.size + 1 + 1 < _; omega)).trans b5.cell
    have c6 := (hB.cell (p := ⟨w.heap.size + 1 + 1 + 1, 0, none⟩) (by show w.heap.size + 1 + 1 + 1 < _; omega)).trans b6.cell
    have f4 := (hB.frozen (p := ⟨w.heap.size + 1, 0, none⟩) (by show w.heap.size + 1 < _; omega)).trans b4.frozen
    have f5 := (hB.frozen (p := ⟨w.heap.size + 1 + 1, 0, none⟩) (by show w.heap.size + 1 + 1 < _; omega)).trans b5.frozen
    have f6 := (hB.frozen (p := ⟨w.heap.size + 1 + 1 + 1, 0, none⟩) (by show w.heap.size + 1 + 1 + 1 < _; omega)).trans b6.frozen
    have d := cell_set3 W w.heap.size (.int .u8 0) (.int .i64 0) (.bool false) (by rw [c4]; rfl) (by rw [c5]; rfl) (by rw [c6]; rfl)
    have hBf := (((hB5.trans (hB.mono hB5.size)).setCell (p := ⟨w.heap.size + 1, 0, none⟩) (by show _ ≤ w.heap.size + 1; omega) (.int .u8 0)).setCell (p := ⟨w.heap.size + 1 + 1, 0, none⟩) (by show _ ≤ w.heap.size + 1 + 1; omega) (.int .i64 0)).setCell (p := ⟨w.heap.size + 1 + 1 + 1, 0, none⟩) (by show _ ≤ w.heap.size + 1 + 1 + 1; omega) (.bool false)
    have hKf := (heap_set3 W w.heap.size (.int .u8 0) (.int .i64 0) (.bool false) D (by omega) (by omega) (by omega)).trans hK
    have hans := findDown_all look len ys hys hne
    gi_wp2
    refine ⟨by simp, .inl ⟨_, _, rfl, run_takeDeferred hKf, ?_⟩⟩
    revert d hBf hKf
    generalize (((W.setCell ⟨w.heap.size + 1, 0, none⟩ (.int .u8 0)).setCell ⟨w.heap.size + 1 + 1, 0, none⟩ (.int .i64 0)).setCell ⟨w.heap.size + 1 + 1 + 1, 0, none⟩ (.bool false)) = W3
    intro d hBf hKf
    rw [hans]
    have n4 : (W3.putObj D (.deferred none)).cell? ⟨w.heap.size + 1, 0, none⟩ = _ := (World.cell?_of_block (World.putObj_heap_other (k := w.heap.size + 1) (by omega))).trans d.1
    have n5 : (W3.putObj D (.deferred none)).cell? ⟨w.heap.size + 1 + 1, 0, none⟩ = _ := (World.cell?_of_block (World.putObj_heap_other (k := w.heap.size + 1 + 1) (by omega))).trans d.2.1
    have n6 : (W3.putObj D (.deferred none)).cell? ⟨w.heap.size + 1 + 1 + 1, 0, none⟩ = _ := (World.cell?_of_block (World.putObj_heap_other (k := w.heap.size + 1 + 1 + 1) (by omega))).trans d.2.2
    refine ⟨_, ?_, rfl, hBf.trans (belowK_b (w := w) (Nat.le_refl _) W3 D _ _ (by omega) hKf rfl rfl)⟩
    simp [results, Tryz.f88, go_sem, n4, n5, n6]
  case stop =>
    rintro D c pre W hD ⟨r, hr, hys⟩ ⟨⟨rfl, ini, k, rfl, hini, hk, e4, e5, e6⟩, hB⟩ hK
    have hans := findDown_hit look len r hr ini k hys hini hk
    gi_wp2
    refine ⟨by simp, .inl ⟨_, _, rfl, run_takeDeferred hK, ?_⟩⟩
    rw [hans, hk]
    have n4 : (W.putObj D (.deferred none)).cell? ⟨w.heap.size + 1, 0, none⟩ = _ := (World.cell?_of_block (World.putObj_heap_other (k := w.heap.size + 1) (by omega))).trans e4
    have n5 : (W.putObj D (.deferred none)).cell? ⟨w.heap.size + 1 + 1, 0, none⟩ = _ := (World.cell?_of_block (World.putObj_heap_other (k := w.heap.size + 1 + 1) (by omega))).trans e5
    have n6 : (W.putObj D (.deferred none)).cell? ⟨w.heap.size + 1 + 1 + 1, 0, none⟩ = _ := (World.cell?_of_block (World.putObj_heap_other (k := w.heap.size + 1 + 1 + 1) (by omega))).trans e6
    refine ⟨_, ?_, rfl, hB.trans (belowK_b (w := w) (Nat.le_refl _) W D _ _ (by omega) hK rfl rfl)⟩
    simp [results, Tryz.f88, go_sem, n4, n5, n6]
end Go.Proofs.YtldbohhdpbmdcaaGreatDoor

namespace Go.Proofs.YtldbohhdpbmdcaaGreatDoor
open Go Go.RowKit Go.Shelf Go.Abs

attribute [local go_sem] Oper.semAt_some

theorem Below.wr {w0 w w' : World} {G : Gh} {h : Heap} (H : WR w0 G h w) (B : Below w.heap.size w w') : WR w0 G h w' where
  imm b o x e := (B.cell (p := ⟨b, o, none⟩) (H.Ilt e)).trans (H.imm b o x e)
  siz b n e := by
    obtain ⟨arr, T, fz, hb, hn⟩ := H.siz b n e
    exact ⟨arr, T, fz, (B.block b (Array.getElem?_eq_some_iff.1 hb).1).trans hb, hn⟩
  obj id o e := by
    have hl := H.lt e
    have ho := H.obj id o e
    cases o with
    | row sz es =>
      obtain ⟨arr, T, he, r⟩ := ho
      exact ⟨arr, T, (B.block id hl).trans he, r⟩
    | map es =>
      obtain ⟨ents, clock, he, r⟩ := ho
      exact ⟨ents, clock, (B.block id hl).trans he, r⟩
    | iter s pos => exact (B.block id hl).trans ho
  sep := H.sep
  lo := H.lo
  old b hb := (B.block b (Nat.lt_of_lt_of_le hb H.size)).trans (H.old b hb)
  size := Nat.le_trans H.size B.size
  os := B.os.trans H.os
  output := B.output.trans H.output

def vars0 : AV := .agg [.v (.int .u8 0), .v (.int .i64 0)]
def asVar : AV → Option (Int × Int × Bool)
  | .tup [.agg [.v (.int .u8 t), .v (.int .i64 n)], .v (.bool b)] => some (t, n, b)
  | _ => none
def outV (x : Int × Int × Bool) : AV := .tup [.v (.int .u8 x.1), .v (.int .i64 x.2.1), .v (.bool x.2.2)]

def lookA (m k : AV) (H : Heap) : Option (Int × Int × Bool) :=
  match eLookup (.string) vars0 true m k H with
  | some r => asVar r
  | none => none

def looks (id i : Nat) (nm : AV) (H : Heap) : Nat → Option (List (Int × Int × Bool))
  | 0 => some []
  | k + 1 =>
    match eLoad false 1 (.ptr 1 id (i + k) 0) H with
    | some m =>
      match lookA m nm H with
      | some x =>
        match looks id i nm H k with
        | some l => some (x :: l)
        | none => none
      | none => none
    | none => none

def firstHit : List (Int × Int × Bool) → Int × Int × Bool
  | [] => (0, 0, false)
  | x :: l => bif x.2.2 then x else firstHit l

def findS (s nm : AV) (H : Heap) : Option AV :=
  match eLoad false 1 s H with
  | some (.sl 1 id i len) =>
    bif Nat.ble (len * 8) 140737488351232 then
      match looks id i nm H len with
      | some l => some (outV (firstHit l))
      | none => none
    else none
  | some (.imm _ []) => some (outV (0, 0, false))
  | _ => none

def findG : List AV → Heap → Option AV
  | [s, .v (.string nm)], H =>
    match s with
    | .v (.pointer none) => some (outV (0, 0, false))
    | s => findS s (.v (.string nm)) H
  | _, _ => none

theorem find_map : mapTypes Tryz.prog 114 = some (.string, vars0) := by kernel_rfl

theorem arr1 {xs : Array Value} (h : 1 = xs.size) : xs = #[xs.getD 0 undef] := by
  apply Array.ext
  · simp [← h]
  · intro i h1 h2; simp at h2; subst h2; simp [Array.getD, h1]
theorem arr2 {xs : Array Value} (h : 2 = xs.size) : xs = #[xs.getD 0 undef, xs.getD 1 undef] := by
  apply Array.ext
  · simp [← h]
  · intro i h1 h2
    simp at h2
    match i, h2, h1 with
    | 0, _, h1 => simp [Array.getD, h1]
    | 1, _, h1 => simp [Array.getD, h1]

theorem vr_v {G : Gh} {x y : Value} (h : VR G (.v x) y) : y = x := by cases h; rfl
theorem vr_var {G : Gh} {a b c z : Value} (h : VR G (.tup [.agg [.v a, .v b], .v c]) z) : z = .tuple #[.agg #[a, b], c] := by
  cases h with
  | tup cs xs hl h =>
    have h0 := h 0 (by simp)
    have h1 := h 1 (by simp)
    rw [arr2 hl]
    simp only [lget, List.getD_cons_zero, List.getD_cons_succ] at h0 h1
    rw [vr_v h1]
    generalize xs.getD 0 undef = y at h0 ⊢
    cases h0 with
    | agg cs xs hl h =>
      have h0 := h 0 (by simp)
      have h1 := h 1 (by simp)
      simp only [lget, List.getD_cons_zero, List.getD_cons_succ] at h0 h1
      rw [arr2 hl, vr_v h0, vr_v h1]

theorem vr_outV (G : Gh) (x : Int × Int × Bool) : VR G (outV x) (.tuple #[.int .u8 x.1, .int .i64 x.2.1, .bool x.2.2]) := by
  refine .tup _ _ rfl fun k hk => ?_
  match k, hk with
  | 0, _ => exact .v _
  | 1, _ => exact .v _
  | 2, _ => exact .v _

theorem asVar_eq {r : AV} {x : Int × Int × Bool} (h : asVar r = some x) : r = .tup [.agg [.v (.int .u8 x.1), .v (.int .i64 x.2.1)], .v (.bool x.2.2)] := by
  unfold asVar at h
  split at h
  · cases h; rfl
  · cases h

theorem ren_vars0 (ρ : Nat → Nat) : ren ρ vars0 = vars0 := by simp [vars0]
theorem ren_outV (ρ : Nat → Nat) (x : Int × Int × Bool) : ren ρ (outV x) = outV x := by simp [outV]

theorem lookA_ren {ρ : Nat → Nat} {H h : Heap} (r : HR ρ H h) {m nm : AV} {x : Int × Int × Bool} (hn : ren ρ nm = nm) (e : lookA m nm H = some x) : lookA (ren ρ m) nm h = some x := by
  unfold lookA at e ⊢
  cases hl : eLookup .string vars0 true m nm H with
  | none => rw [hl] at e; cases e
  | some v =>
    rw [hl] at e
    have := eLookup_ren r (ren_vars0 ρ) hl
    rw [hn] at this
    rw [this]
    simp only at e ⊢
    obtain rfl := asVar_eq e
    simp [asVar]

theorem looks_ren {ρ : Nat → Nat} {H h : Heap} (r : HR ρ H h) {id i : Nat} {nm : AV} (hn : ren ρ nm = nm) : ∀ {len : Nat} {l}, looks id i nm H len = some l → looks (ρ id) i nm h len = some l := by
  intro len
  induction len with
  | zero => intro l e; exact e
  | succ k ih =>
    intro l e
    unfold looks at e ⊢
    cases h1 : eLoad false 1 (.ptr 1 id (i + k) 0) H with
    | none => rw [h1] at e; cases e
    | some m =>
      have q := eLoad_ren r h1
      rw [ren_ptr] at q
      rw [q]
      rw [h1] at e
      simp only at e ⊢
      cases h2 : lookA m nm H with
      | none => rw [h2] at e; cases e
      | some x =>
        rw [lookA_ren r hn h2]
        rw [h2] at e
        simp only at e ⊢
        cases h3 : looks id i nm H k with
        | none => rw [h3] at e; cases e
        | some l' =>
          rw [ih h3]
          rw [h3] at e
          exact e

theorem findS_ren {ρ : Nat → Nat} {H h : Heap} (r : HR ρ H h) {s nm v : AV} (hn : ren ρ nm = nm) (e : findS s nm H = some v) : findS (ren ρ s) nm h = some v := by
  unfold findS at e ⊢
  cases h1 : eLoad false 1 s H with
  | none => rw [h1] at e; cases e
  | some u =>
    rw [eLoad_ren r h1]
    rw [h1] at e
    split at e
    · rename_i id i len heq
      cases heq
      rw [ren_sl]
      cases hb : Nat.ble (len * 8) 140737488351232 with
      | false => rw [hb] at e; cases e
      | true =>
        rw [hb] at e
        simp only [cond_true] at e
        cases h2 : looks id i nm H len with
        | none => rw [h2] at e; cases e
        | some l => show (bif Nat.ble (len * 8) 140737488351232 then (match looks (ρ id) i nm h len with | some l => some (outV (firstHit l)) | none => none) else none) = some v; rw [hb, looks_ren r hn h2]; rw [h2] at e; exact e
    · rename_i heq
      cases heq
      simp only [ren_imm, List.map_nil]
      exact e
    · cases e

theorem findG_ren {ρ : Nat → Nat} {H h : Heap} (r : HR ρ H h) {args : List AV} {v : AV} (e : findG args H = some v) : findG (args.map (ren ρ)) h = some v := by
  unfold findG at e
  split at e
  · rename_i s nm
    split at e
    · simpa [findG] using e
    · rename_i hs
      have q := findS_ren r (ren_v ρ _) e
      simp only [List.map_cons, List.map_nil, ren_v]
      unfold findG
      simp only
      split
      · rename_i heq
        exfalso
        unfold findS at q
        rw [heq] at q
        simp [eLoad, cellsAt] at q
      · exact q
  · cases e

theorem looks_look {id i : Nat} {nm : AV} {h : Heap} : ∀ {len : Nat} {l}, looks id i nm h len = some l →
    ∃ look : Nat → Int × Int × Bool, findDown look len = firstHit l ∧ ∀ k, k < len → ∃ m, eLoad false 1 (.ptr 1 id (i + k) 0) h = some m ∧ lookA m nm h = some (look k) := by
  intro len
  induction len with
  | zero => intro l e; cases e; exact ⟨fun _ => (0, 0, false), rfl, fun k hk => absurd hk (by omega)⟩
  | succ n ih =>
    intro l e
    unfold looks at e
    cases h1 : eLoad false 1 (.ptr 1 id (i + n) 0) h with
    | none => rw [h1] at e; cases e
    | some m =>
      rw [h1] at e
      simp only at e
      cases h2 : lookA m nm h with
      | none => rw [h2] at e; cases e
      | some x =>
        rw [h2] at e
        simp only at e
        cases h3 : looks id i nm h n with
        | none => rw [h3] at e; cases e
        | some l' =>
          rw [h3] at e
          cases e
          obtain ⟨look, hf, hk⟩ := ih h3
          have hlt : ∀ (f g : Nat → Int × Int × Bool) (c : Nat), (∀ k, k < c → f k = g k) → findDown f c = findDown g c := by
            intro f g c
            induction c with
            | zero => intro _; rfl
            | succ c ihc => intro hh; simp only [findDown]; rw [hh c (by omega), ihc (fun k hk => hh k (by omega))]
          refine ⟨fun k => if k = n then x else look k, ?_, fun k hk' => ?_⟩
          · simp only [findDown, if_true, firstHit]
            rw [hlt _ look n (fun k hk => by simp [Nat.ne_of_lt hk]), hf]
            cases x.2.2 <;> simp
          · by_cases hkn : k = n
            · subst hkn; exact ⟨m, h1, by simp [h2]⟩
            · obtain ⟨m', a, b⟩ := hk k (by omega)
              exact ⟨m', a, by simp [hkn, b]⟩

theorem eLoad_world {w0 w : World} {G : Gh} {h : Heap} (H : WR w0 G h w) {a : AV} {x : Value} (hx : VR G a x) {r : AV} (e : eLoad false 1 a h = some r) :
    ∃ b o y, x = .pointer (some ⟨b, o, none⟩) ∧ w.cell? ⟨b, o, none⟩ = some y ∧ VR G r y := by
  unfold eLoad at e
  split at e
  · rename_i cs off hc
    obtain ⟨b, o, hx', hcell⟩ := cellsAt_ok H hx hc
    obtain ⟨hle, ⟨h1, _⟩ | ⟨_, _, rfl⟩⟩ := ePart_ok e
    · cases h1
    · obtain ⟨y, hy, hv⟩ := hcell off (by omega)
      exact ⟨b, o + off, y, hx', hy, hv⟩
  · cases e

set_option maxHeartbeats 1000000 in
/-- .. at a nil scope. -/
theorem Find_nil_in (F : Fence) (n : Nat) (h3 : F.fn 88) (hro : F.round = none) (nm : ByteArray) (w : World) :
    CallsIn F n Tryz.prog 88 #[.pointer none, .string nm] w fun e W' => e = .returned (.tuple #[.int .u8 0, .int .i64 0, .bool false]) ∧ Below w.heap.size w W' := by
  refine callsIn_of_wp Tryz.func88 rfl h3 ?_ hro
  simp only [Tryz.ntmps88, List.size_toArray, List.length_cons, List.length_nil, Nat.reduceAdd, Nat.reduceSub, Array.replicate_succ, Array.replicate_zero, List.push_toArray, List.append_toArray, List.nil_append, List.cons_append]
  gi_wp2
  refine bodyPost_ret (v := .tuple #[.int .u8 0, .int .i64 0, .bool false]) ?_ rfl ⟨rfl, ?_⟩
  · simp [results, Tryz.f88, go_sem]
  · exact ((((Below.refl _ w).alloc (Nat.le_refl _) _).alloc (by simp) _).alloc (by simp; omega) _).alloc (by simp; omega) _

theorem calls_of_in {f : FuncId} {xs : Array Value} {w : World} {R : Ending → World → Prop} (h : CallsIn Fence.wide 3 Tryz.prog f xs w R) : Calls Tryz.prog f xs w R := callsIn_wide.1 h

theorem findS_calls {w0 : World} {G : Gh} {h : Heap} {w : World} (HW : WR w0 G h w) {s : AV} {x : Value} (hx : VR G s x) (nm : ByteArray) {v : AV} (e : findS s (.v (.string nm)) h = some v) :
    ∃ y, VR G v y ∧ Calls Tryz.prog 88 #[x, .string nm] w fun e W' => e = .returned y ∧ Below w.heap.size w W' := by
  unfold findS at e
  cases h1 : eLoad false 1 s h with
  | none => rw [h1] at e; cases e
  | some u =>
    rw [h1] at e
    obtain ⟨b, o, y, rfl, hc, hy⟩ := eLoad_world HW hx h1
    split at e
    · rename_i id i len heq
      cases heq
      cases hb : Nat.ble (len * 8) 140737488351232 with
      | false => rw [hb] at e; cases e
      | true =>
        rw [hb] at e
        simp only [cond_true] at e
        have hreach := Nat.le_of_ble_eq_true hb
        cases h2 : looks id i (.v (.string nm)) h len with
        | none => rw [h2] at e; cases e
        | some l =>
          rw [h2] at e
          cases e
          obtain ⟨look, hf, hk⟩ := looks_look h2
          cases hy with
          | sl sz id i len o' cap n hcap hZ hn ho =>
            obtain ⟨arr, T, fz, hbk, hsz⟩ := HW.siz _ _ hZ
            have hid : id < w.heap.size := (Array.getElem?_eq_some_iff.1 hbk).1
            have hcell : ∀ k, k < len → ∃ m z, eLoad false 1 (.ptr 1 id (i + k) 0) h = some m ∧ lookA m (.v (.string nm)) h = some (look k) ∧ w.cell? ⟨id, o' + k, none⟩ = some z ∧ VR G m z := by
              intro k hkl
              obtain ⟨m, hm, hl⟩ := hk k hkl
              obtain ⟨b', oo, z, hp, hz, hvz⟩ := eLoad_world HW (.ptr 1 id (i + k) 0) hm
              simp only [Value.pointer.injEq, Option.some.injEq, Addr.mk.injEq, and_true] at hp
              obtain ⟨rfl, hoo⟩ := hp
              have : oo = o' + k := by rcases ho with h0 | h0 <;> omega
              subst this
              exact ⟨m, z, hm, hl, hz, hvz⟩
            refine ⟨_, vr_outV G (firstHit l), ?_⟩
            rw [← hf]
            refine calls_of_in (Find_in Fence.wide 3 trivial trivial trivial rfl (Nat.le_refl _) b o nm (some ⟨id, o', none⟩) len cap (fun k => (w.cell? ⟨id, o' + k, none⟩).getD undef) look hreach w hc
              (.inr ⟨id, o', cap, rfl, hid, fun k hkl => ?_⟩) fun k hkl W hW => ?_)
            · obtain ⟨m, z, _, _, hz, _⟩ := hcell k hkl
              simp [hz]
            · obtain ⟨m, z, _, hl, hz, hvz⟩ := hcell k hkl
              unfold lookA at hl
              cases he : eLookup .string vars0 true m (.v (.string nm)) h with
              | none => rw [he] at hl; cases hl
              | some r =>
                rw [he] at hl
                obtain ⟨z', hrun, hv'⟩ := lookup_ok (Below.wr HW hW) find_map hvz (.v _) he
                rw [asVar_eq hl] at hv'
                rw [vr_var hv'] at hrun
                simp only [hz, Option.getD_some]
                exact hrun
    · rename_i heq
      cases heq
      cases e
      cases hy with
      | immNil sz a cap =>
        exact ⟨_, vr_outV G (0, 0, false), calls_of_in (Find_in Fence.wide 3 trivial trivial trivial rfl (Nat.le_refl _) b o nm a 0 cap (fun _ => undef) (fun _ => (0, 0, false)) (by simp) w hc (.inl ⟨rfl, a, cap, rfl⟩) fun k hk => absurd hk (by omega))⟩
      | imm sz es b' o' cap hcap hsz ys hI hv =>
        exact ⟨_, vr_outV G (0, 0, false), calls_of_in (Find_in Fence.wide 3 trivial trivial trivial rfl (Nat.le_refl _) b o nm _ 0 cap (fun _ => undef) (fun _ => (0, 0, false)) (by simp) w hc (.inl ⟨rfl, _, cap, rfl⟩) fun k hk => absurd hk (by omega))⟩
    · cases e

theorem findG_closed {args : List AV} {H : Heap} {v : AV} (e : findG args H = some v) : ∃ x, v = outV x := by
  unfold findG at e
  split at e
  · split at e
    · cases e; exact ⟨_, rfl⟩
    · unfold findS at e
      split at e
      · cases hb : Nat.ble _ _ with
        | false => rw [hb] at e; cases e
        | true =>
          rw [hb] at e
          simp only [cond_true] at e
          split at e
          · cases e; exact ⟨_, rfl⟩
          · cases e
      · cases e; exact ⟨_, rfl⟩
      · cases e
  · cases e

/-- **Scope.Find, AS AN ORACLE.** -/
theorem find_oracle {args : List AV} {H : Heap} {v : AV} (e : findG args H = some v) :
    (∀ ρ : Nat → Nat, ren ρ v = v) ∧ ∀ (ρ : Nat → Nat) (h : Heap), HR ρ H h → APure Tryz.prog 88 (args.map (ren ρ)) v h := by
  refine ⟨fun ρ => by obtain ⟨x, rfl⟩ := findG_closed e; exact ren_outV ρ x, fun ρ h hr h' hle => ⟨enters_of Tryz.func88 (by kernel_rfl) rfl, fun w0 G w xs HW hxs => ?_⟩⟩
  have q := findG_ren (hr.mono hle) e
  generalize args.map (ren ρ) = as' at q hxs
  unfold findG at q
  have fin : ∀ y, VR G v y → (Calls Tryz.prog 88 xs w fun e W' => e = .returned y ∧ Below w.heap.size w W') →
      Calls Tryz.prog 88 xs w fun e w' => ∃ v' r h'' G', e = .returned v' ∧ G.le G' ∧ WR w0 G' h'' w' ∧ VR G' r v' ∧ r = v ∧ h'' = h' :=
    fun y hy hc => hc.mono fun e W' ⟨he, hb⟩ => ⟨y, v, h', G, he, Gh.le.refl G, Below.wr HW hb, hy, rfl, rfl⟩
  split at q
  · rename_i s nm
    obtain ⟨hl, hv⟩ := hxs
    rw [arr2 hl] at fin ⊢
    have v0 := hv 0 (by simp)
    have v1 := hv 1 (by simp)
    simp only [lget, List.getD_cons_zero, List.getD_cons_succ] at v0 v1
    rw [vr_v v1] at fin ⊢
    split at q
    · cases q
      rw [vr_v v0] at fin ⊢
      exact fin _ (vr_outV G _) (calls_of_in (Find_nil_in Fence.wide 3 trivial rfl nm w))
    · obtain ⟨y, hy, hc⟩ := findS_calls HW v0 nm q
      exact fin y hy hc
  · cases q
end Go.Proofs.YtldbohhdpbmdcaaGreatDoor

namespace Go.Proofs.YtldbohhdpbmdcaaGreatDoor
open Go Go.RowKit Go.Shelf Go.Abs
shelf_lay Lays.n217 Nm 217 at Tryz as Tryz.lays217

def ixF (c : Nat) : List UInt8 → Nat → Int
  | [], _ => .negSucc 0
  | b :: l, i => bif Nat.beq b.toNat c then .ofNat i else ixF c l (i + 1)
theorem ixF_eq (c : UInt8) : ∀ (l : List UInt8) (i : Nat), ixF c.toNat l i = if Lib.indexByte l c = -1 then -1 else Lib.indexByte l c + (i : Int) := by
  intro l
  induction l with
  | nil => intro i; rfl
  | cons b l ih =>
    intro i
    have hb : Nat.beq b.toNat c.toNat = (b == c) := by
      rw [Bool.eq_iff_iff]
      simp [UInt8.toNat_inj]
    have hge := Lib.indexByte_ge l c
    simp only [ixF, hb]
    by_cases hbc : (b == c) = true
    · have e1 : Lib.indexByte (b :: l) c = 0 := by unfold Lib.indexByte; rw [if_pos hbc]
      rw [e1, hbc]
      simp
    · have hbf : (b == c) = false := by simpa using hbc
      have e1 : Lib.indexByte (b :: l) c = if Lib.indexByte l c == -1 then -1 else Lib.indexByte l c + 1 := by
        conv => lhs; unfold Lib.indexByte
        rw [if_neg hbc]
      rw [hbf, cond_false, ih, e1]
      by_cases h1 : Lib.indexByte l c = -1
      · simp [h1]
      · have h2 : Lib.indexByte l c + 1 ≠ -1 := by omega
        simp [h1, h2]
        omega

def ixG : List AV → Heap → Option AV
  | [.v (.string s), .v (.int .u8 c)], _ => some (.v (.int .i64 (ixF c.toNat.toUInt8.toNat s.data.toList 0)))
  | _, _ => none

theorem ix_oracle {args : List AV} {H : Heap} {v : AV} (e : ixG args H = some v) :
    (∀ ρ : Nat → Nat, ren ρ v = v) ∧ ∀ (ρ : Nat → Nat) (h : Heap), HR ρ H h → APure Tryz.prog 189 (args.map (ren ρ)) v h := by
  unfold ixG at e
  split at e
  · rename_i s c
    have hix : ixF c.toNat.toUInt8.toNat s.data.toList 0 = Lib.indexByte s.data.toList c.toNat.toUInt8 := by
      rw [ixF_eq]; split <;> simp_all
    rw [hix] at e
    cases e
    refine ⟨fun ρ => ren_v ρ _, fun ρ h hr h' hle => ⟨enters_of Tryz.func189 (by kernel_rfl) rfl, fun w0 G w xs HW hxs => ?_⟩⟩
    obtain ⟨hl, hv⟩ := hxs
    have v0 := hv 0 (by simp)
    have v1 := hv 1 (by simp)
    simp only [List.map_cons, List.map_nil, ren_v, lget, List.getD_cons_zero, List.getD_cons_succ] at v0 v1
    rw [arr2 hl, vr_v v0, vr_v v1]
    refine (show Calls Tryz.prog 189 _ _ _ from Any.stringslite_IndexByte Tryz.lays217 s c w).mono ?_
    rintro e' w' ⟨rfl, rfl⟩
    exact ⟨_, _, h', G, rfl, Gh.le.refl G, HW, .v _, rfl, rfl⟩
  · cases e

def ms_W : Oracle := fun f => bif Nat.beq f 88 then some findG else bif Nat.beq f 189 then some ixG else none

theorem ms_WOK : OracleOK Tryz.prog ms_W := by
  intro f g hf args H v e
  unfold ms_W at hf
  cases h1 : Nat.beq f 88 with
  | true =>
    obtain rfl := Nat.eq_of_beq_eq_true h1
    simp at hf
    subst hf
    exact find_oracle e
  | false =>
    cases h2 : Nat.beq f 189 with
    | true =>
      obtain rfl := Nat.eq_of_beq_eq_true h2
      obtain rfl : ixG = g := Option.some.inj hf
      exact ix_oracle e
    | false => simp [h1, h2] at hf
end Go.Proofs.YtldbohhdpbmdcaaGreatDoor
