/- The laws EEmpty and EFresh. -/
import Derived.Test.YmbrdwCore1
import Derived.LaidEqlPtr
namespace Go.Proofs.Ymbrdw
open Go.RowKit

theorem eclamp_any (n : Int) (w : World) :
   Calls Ydwm.prog 17 #[.int .i64 n] w fun e w' => e = .returned (.int .i64 (max n 0)) ∧ w' = w := by
  by_cases h : 0 < n
  · have : max n 0 = n := by omega
    rw [this]
    go_enter Ydwm.func17, Ydwm.ntmps17
    go_wp2
    go_ret
    exact ⟨rfl, rfl⟩
  · have : max n 0 = 0 := by omega
    rw [this]
    go_enter Ydwm.func17, Ydwm.ntmps17
    go_wp2
    go_ret
    exact ⟨rfl, rfl⟩

set_option maxHeartbeats 400000 in
theorem eempty_any (b : Nat) (n : Int) (w : World) 
   (c0 : w.cell? ⟨b, 0, none⟩ = some (.slice none 0 0))
   (c1 : w.cell? ⟨b, 1, none⟩ = some (.int .i64 (-1)))
   (c2 : w.cell? ⟨b, 2, none⟩ = some (.int .i64 (-1)))
   (c3 : w.cell? ⟨b, 3, none⟩ = some (.int .i64 (-1)))
   (c4 : w.cell? ⟨b, 4, none⟩ = some (.int .i64 0))
   (c5 : w.cell? ⟨b, 5, none⟩ = some (.int .i64 n)) :
   Calls Ydwm.prog 15 #[.pointer (some ⟨b, 0, none⟩), .int .i64 n] w fun e w' => e = .returned (.bool true) ∧ w' = w := by
  have q31 : ∀ (w : World) (a : Option Addr) (n c n' c' : Nat), (binOp .eql 31 (.slice a n c) (.slice none n' c')).run Ydwm.prog w = .ok (.bool a.isNone) w := fun w a n c n' c' => Lib.run_eql_slice_nil w _ _ a n c n' c' Ydwm.underlying31
  have q23 := fun p w => run_neq_pointer_nil (P := Ydwm.prog) w 23 p Ydwm.underlying23
  go_enter Ydwm.func15, Ydwm.ntmps15
  go_wp2
  go_ret
  exact ⟨rfl, rfl⟩

set_option maxHeartbeats 400000 in
theorem walk_EEmpty (w : World) (a0 : Int) (_w0 : (Lit.int .i64 a0).wf = true) :
    Calls Ydwm.prog 3 #[.int .i64 a0] w fun e w' => e = .returned (.bool true) ∧ Below w.heap.size w w' := by
  go_enter Ydwm.func3, Ydwm.ntmps3
  go_wp2_with fail
  refine (New_any _ _).mono ?_
  rintro e w' ⟨rfl, rfl⟩
  go_wp2_with fail
  refine (eclamp_any _ _).mono ?_
  rintro e w' ⟨rfl, rfl⟩
  go_wp2_with fail
  refine (eempty_any _ _ _ (by simp) (by simp) (by simp) (by simp) (by simp) (by simp)).mono ?_
  rintro e w' ⟨rfl, rfl⟩
  go_wp2_with fail
  go_ret
  exact ⟨rfl, (Below.refl _ _).alloc (Nat.le_refl _) _⟩

theorem run_neq_ptr_other {P : Program} (w : World) {tp te : TypeId} {j : TypeInfo} {a b : Addr} {ca cb : Array Value} {ta tb : TypeId} (hp : P.underlying tp = some (.pointer te)) (hte : P.info? te = some j) (hsz : j.size ≠ 0)
    (hne : a ≠ b) (ha : w.heap[a.block]? = some (.cells ca ta (0, 0))) (hb : w.heap[b.block]? = some (.cells cb tb (0, 0))) :
    (binOp .neq tp (.pointer (some a)) (.pointer (some b))).run P w = .ok (.bool true) w := by
  have h : ∀ d : Nat, (Op.equalIn (d + 1) tp (.pointer (some a)) (.pointer (some b))).run P w = .ok false w := fun d => by
    simp [Op.equalIn, run_underlying hp, sizeOf, typeInfo, hte, hsz, run_sameAddr_other w hne ha hb]
  simp only [binOp]
  simp [Op.equal, Op.maxDepth, h 9999]

theorem infoCache : (Ydwm.prog.info? 33).map (fun i => i.size) = some 6 := by kernel_rfl

set_option maxHeartbeats 400000 in
theorem walk_EFresh (w : World) (a0 : Int) (_w0 : (Lit.int .i64 a0).wf = true) (a1 : Int) (_w1 : (Lit.int .i64 a1).wf = true) (a2 : Int) (_w2 : (Lit.int .i64 a2).wf = true) :
    Calls Ydwm.prog 4 #[.int .i64 a0, .int .i64 a1, .int .i64 a2] w fun e w' => e = .returned (.bool true) ∧ Below w.heap.size w w' := by
  obtain ⟨j, hj, hjs⟩ := Option.map_eq_some_iff.1 infoCache
  have q1 : ∀ (A B : Array Value), (binOp .eql 23 (.pointer (some ⟨w.heap.size, 0, none⟩)) (.pointer (some ⟨w.heap.size + 1, 0, none⟩))).run Ydwm.prog ((w.alloc (.cells A 33)).alloc (.cells B 33)) = .ok (.bool false) ((w.alloc (.cells A 33)).alloc (.cells B 33)) := fun A B =>
    run_eql_ptr_other _ Ydwm.underlying23 hj (by omega) (addr_ne_blk (by omega)) ((hold _ _ _ (by simp)).trans (heap_alloc_new _ _)) (by have := heap_alloc_new (w.alloc (.cells A 33)) (.cells B 33); simpa using this)
  have hh : ∀ (A B C D : Array Value), ((((w.alloc (.cells A 33)).alloc (.cells B 33)).alloc (.cells C 30)).alloc (.cells D 33)).heap[w.heap.size + 1 + 1 + 1]? = some (.cells D 33 (0, 0)) ∧ ((((w.alloc (.cells A 33)).alloc (.cells B 33)).alloc (.cells C 30)).alloc (.cells D 33)).heap[w.heap.size]? = some (.cells A 33 (0, 0)) ∧ ((((w.alloc (.cells A 33)).alloc (.cells B 33)).alloc (.cells C 30)).alloc (.cells D 33)).heap[w.heap.size + 1]? = some (.cells B 33 (0, 0)) := fun A B C D => by
    refine ⟨?_, ?_, ?_⟩
    · have := heap_alloc_new (((w.alloc (.cells A 33)).alloc (.cells B 33)).alloc (.cells C 30)) (.cells D 33); simpa using this
    · rw [hold _ _ _ (by simp; omega), hold _ _ _ (by simp; omega), hold _ _ _ (by simp)]; exact heap_alloc_new _ _
    · rw [hold _ _ _ (by simp), hold _ _ _ (by simp)]; have := heap_alloc_new (w.alloc (.cells A 33)) (.cells B 33); simpa using this
  have q2 : ∀ (A B C D : Array Value), (binOp .neq 23 (.pointer (some ⟨w.heap.size + 1 + 1 + 1, 0, none⟩)) (.pointer (some ⟨w.heap.size, 0, none⟩))).run Ydwm.prog ((((w.alloc (.cells A 33)).alloc (.cells B 33)).alloc (.cells C 30)).alloc (.cells D 33)) = .ok (.bool true) ((((w.alloc (.cells A 33)).alloc (.cells B 33)).alloc (.cells C 30)).alloc (.cells D 33)) := fun A B C D =>
    run_neq_ptr_other _ Ydwm.underlying23 hj (by omega) (addr_ne_blk (by omega)) (hh A B C D).1 (hh A B C D).2.1
  have q3 : ∀ (A B C D : Array Value), (binOp .neq 23 (.pointer (some ⟨w.heap.size + 1 + 1 + 1, 0, none⟩)) (.pointer (some ⟨w.heap.size + 1, 0, none⟩))).run Ydwm.prog ((((w.alloc (.cells A 33)).alloc (.cells B 33)).alloc (.cells C 30)).alloc (.cells D 33)) = .ok (.bool true) ((((w.alloc (.cells A 33)).alloc (.cells B 33)).alloc (.cells C 30)).alloc (.cells D 33)) := fun A B C D =>
    run_neq_ptr_other _ Ydwm.underlying23 hj (by omega) (addr_ne_blk (by omega)) (hh A B C D).1 (hh A B C D).2.2
  have HH : Hid (∀ (A B C D : Array Value), _) := hh
  clear hh
  go_enter Ydwm.func4, Ydwm.ntmps4
  go_wp2_with fail
  refine (New_any _ _).mono ?_
  rintro e w' ⟨rfl, rfl⟩
  go_wp2_with fail
  refine (New_any _ _).mono ?_
  rintro e w' ⟨rfl, rfl⟩
  go_wp2_with fail
  refine (New_any _ _).mono ?_
  rintro e w' ⟨rfl, rfl⟩
  go_wp2_with fail
  refine (eclamp_any _ _).mono ?_
  rintro e w' ⟨rfl, rfl⟩
  go_wp2_with fail
  refine (eempty_any _ _ _ ?_ ?_ ?_ ?_ ?_ ?_).mono ?_
  iterate 6 (rw [cell_of_row _ _ _ _ _ _ (HH.out _ _ _ _).2.2]; rfl)
  rintro e w' ⟨rfl, rfl⟩
  go_wp2_with fail
  refine (eclamp_any _ _).mono ?_
  rintro e w' ⟨rfl, rfl⟩
  go_wp2_with fail
  refine (eempty_any _ _ _ ?_ ?_ ?_ ?_ ?_ ?_).mono ?_
  iterate 6 (rw [cell_of_row _ _ _ _ _ _ (HH.out _ _ _ _).1]; rfl)
  rintro e w' ⟨rfl, rfl⟩
  go_wp2_with fail
  go_ret
  exact ⟨rfl, ((((Below.refl _ _).alloc (Nat.le_refl _) _).alloc (by simp) _).alloc (by simp; omega) _).alloc (by simp; omega) _⟩
end Go.Proofs.Ymbrdw
