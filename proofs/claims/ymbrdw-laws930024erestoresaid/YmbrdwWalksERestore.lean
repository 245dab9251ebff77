/- The law ERestore: her walk. -/
import Derived.Test.YmbrdwWalksE
import Derived.Test.YmbrdwHeld
import Derived.Deep.DeepCutAuto
namespace Go.Proofs.Ymbrdw
open Go.RowKit

theorem sameAddr_other {P : Program} {w : World} {a b : Nat} {x y : Value} (hne : a ≠ b) (ha : w.cell? ⟨a, 0, none⟩ = some x) (hb : w.cell? ⟨b, 0, none⟩ = some y) (fa : ∀ o, w.frozen? ⟨a, o, none⟩ = false) (fb : ∀ o, w.frozen? ⟨b, o, none⟩ = false) :
    (sameAddr ⟨a, 0, none⟩ ⟨b, 0, none⟩).run P w = .ok false w := by
  unfold World.cell? at ha hb
  split at ha
  · rename_i c1 e1 f1 h1
    split at hb
    · rename_i c2 e2 f2 h2
      simp only at h1 h2
      simp [sameAddr, hne, fa, fb, h1, h2, noView, viewAt, World.shape?, mayBeOne, stringish]
    · simp at hb
  · simp at ha

theorem cache_neq {w : World} {a b na nb : Nat} {c d : Cs} (hne : a ≠ b) (H : CacheAt w a na c) (G : CacheAt w b nb d) :
    (binOp .neq 23 (.pointer (some ⟨a, 0, none⟩)) (.pointer (some ⟨b, 0, none⟩))).run Ydwm.prog w = .ok (.bool true) w := by
  obtain ⟨j, hj, hjs⟩ := Option.map_eq_some_iff.1 infoCache
  obtain ⟨x, hx⟩ : ∃ x, w.cell? ⟨a, 0, none⟩ = some x := by rcases H.nod with ⟨_, _, h⟩ | ⟨_, _, h, _⟩ <;> exact ⟨_, h⟩
  obtain ⟨y, hy⟩ : ∃ x, w.cell? ⟨b, 0, none⟩ = some x := by rcases G.nod with ⟨_, _, h⟩ | ⟨_, _, h, _⟩ <;> exact ⟨_, h⟩
  have h : ∀ d : Nat, (Op.equalIn (d + 1) 23 (.pointer (some ⟨a, 0, none⟩)) (.pointer (some ⟨b, 0, none⟩))).run Ydwm.prog w = .ok false w := fun d => by
    simp [Op.equalIn, run_underlying Ydwm.underlying23, sizeOf, typeInfo, hj, hjs, sameAddr_other hne hx hy H.fr G.fr]
  simp only [binOp]
  simp [Op.equal, Op.maxDepth, h 9999]

theorem new_cells {w : World} {cb : Nat} {cap : Int} (H : CacheAt w cb cb (Cs.new cap)) : w.cell? ⟨cb, 0, none⟩ = some (.slice none 0 0) := by
  rcases H.nod with ⟨_, _, h⟩ | ⟨h, _⟩
  · exact h
  · exact absurd rfl h

/-- eempty of a new cache -/
theorem eempty_new (cb : Nat) (cap : Int) (w : World) (H : CacheAt w cb cb (Cs.new cap)) : Calls Ydwm.prog 15 #[.pointer (some ⟨cb, 0, none⟩), .int .i64 (max cap 0)] w fun e w' => e = .returned (.bool true) ∧ w' = w :=
  eempty_any cb (max cap 0) w (new_cells H) H.c1 H.c2 H.c3 H.c4 H.c5

set_option maxHeartbeats 1000000 in
/-- Restore of no entries -/
theorem Restore_none (cap : Int) (a : Option Addr) (ecap : Nat) (w : World) :
    Calls Ydwm.prog 18 #[.int .i64 cap, .slice a 0 ecap] w fun e w' => e = .returned (.tuple #[.pointer (some ⟨w.heap.size, 0, none⟩), .bool true]) ∧ CacheAt w' w.heap.size w.heap.size (Cs.new cap) ∧ Keeps [] w w' := by
  go_enter Ydwm.func18, Ydwm.ntmps18
  go_wp2_with fail
  refine (New_at cap w).mono ?_
  rintro e w1 ⟨rfl, H1, K1, S1⟩
  have c5 : w1.cell? ⟨w.heap.size, 5, none⟩ = some (.int .i64 (max cap 0)) := H1.c5
  have hm : ¬ max cap 0 < 0 := by omega
  go_wp2
  go_loopw [7] (fun i wr => i = .int .i64 (-1) ∧ w1 = wr) (fun _ _ => 0)
  case atStart => exact ⟨rfl, rfl⟩
  case round =>
    obtain ⟨rfl, rfl⟩ := hrel
    go_wp2
    go_ret2
    exact ⟨rfl, H1, K1⟩

/-- what Restore answers to more entries than fit, to none -/
theorem Restore_either (cap : Int) (b off : Nat) (a : Option Addr) (len ecap : Nat) (K V : Nat → Int) (w : World) (hE : InRow w b off a len 2 (ecell K V)) (hb : len ≤ 100000) (hc : len = 0 ∨ cap < len) :
    Calls Ydwm.prog 18 #[.int .i64 cap, .slice a len ecap] w fun e w' => ∃ cb, e = .returned (.tuple #[.pointer (some ⟨cb, 0, none⟩), .bool (decide (len = 0))]) ∧ CacheAt w' cb cb (Cs.new cap) ∧ w.heap.size ≤ cb ∧ Keeps [] w w' := by
  by_cases h0 : len = 0
  · subst h0
    exact (Restore_none cap a ecap w).mono fun e w' ⟨he, H, K⟩ => ⟨w.heap.size, by simpa using he, H, Nat.le_refl _, K⟩
  · have hd : decide (len = 0) = false := by simpa using h0
    rw [hd]
    refine (Restore_at cap b off a len ecap K V w hE hb).mono fun e w' ⟨hK, cb, nb, h1, h2, h⟩ => ?_
    rcases h with ⟨_, hl, _⟩ | ⟨he, _, rfl, H⟩
    · omega
    · exact ⟨nb, he, H, h1, hK⟩

theorem wrap64_id' (x : Int) (h0 : -1000000000 ≤ x) (h1 : x ≤ 1000000000) : wrap64 x = x := by unfold wrap64; omega
theorem neg_rem (x : Int) (n : Nat) (hn : 0 < n) (hl : n ≤ 100000) : wrap64 (-wrap64 (x.tmod n)) < n := by
  have h1 : (x.tmod n).natAbs < n := by rw [Int.natAbs_tmod]; exact Nat.mod_lt _ (by simpa using hn)
  rw [wrap64_id' (x.tmod n) (by omega) (by omega), wrap64_id' _ (by omega) (by omega)]; omega
theorem pos_rem (x : Int) (n : Nat) (hn : 0 < n) (hl : n ≤ 100000) : wrap64 (x % n) < n := by
  have h1 := Int.emod_lt_of_pos x (show (0 : Int) < n by omega)
  have h2 := Int.emod_nonneg x (show (n : Int) ≠ 0 by omega)
  rw [wrap64_id' _ (by omega) (by omega)]; exact h1

set_option maxRecDepth 100000 in
set_option maxHeartbeats 4000000 in
theorem walk_ERestore (w : World) (a0 : Int) (w0 : (Lit.int .i64 a0).wf = true) (a1 : Option Addr) (len cap : Nat) (z : Nat → Int) (hz : InInts .i64 w a1 len z) :
    Calls Ydwm.prog 5 #[.int .i64 a0, .slice a1 len cap] w fun e w' => e = .returned (.bool true) ∧ Below w.heap.size w w' := by
  by_cases hbig : 1024 < len
  · have hbig' : (1024 : Int) < (len : Int) := by omega
    go_enter Ydwm.func5, Ydwm.ntmps5
    go_wp2
    go_ret
    exact ⟨rfl, Below.refl _ _⟩
  have hlen : (len : Int) ≤ 1024 := by omega
  obtain ⟨⟨b, off, hE⟩, _⟩ := hz
  obtain ⟨h00, h01⟩ := wf_i64 w0
  have hmk := make_entries len (by omega)
  clear w0
  go_enter Ydwm.func5, Ydwm.ntmps5
  go_upto_if 20 with fail
  go_cut [6] (fun v wx => ∃ kk : Int, v = .int .i64 kk ∧ (len = 0 ∨ kk < len) ∧ w = wx)
  case first =>
    by_cases h0 : (0 : Int) < (len : Int)
    · by_cases hneg : a0 < 0
      · go_wp2
        go_meet
        exact ⟨_, rfl, .inr (neg_rem _ len (by omega) (by omega)), rfl⟩
      · go_wp2
        go_meet
        exact ⟨_, rfl, .inr (pos_rem _ len (by omega) (by omega)), rfl⟩
    · go_wp2
      go_meet
      exact ⟨a0, rfl, .inl (by omega), rfl⟩
  case rest =>
    obtain ⟨kk, rfl, hkk, rfl⟩ := hcut
    go_wp2
    go_loopw [8] (fun i wr => ∃ k : Nat, k ≤ len ∧ i = .int .i64 k ∧ RowAt wr w.heap.size 28 2 len len (ecell (part k z) (part k fun j => (j : Int))) ∧ Keeps [] w wr) (fun i _ => len - (intOf i).toNat)
    case atStart => exact ⟨0, by omega, rfl, RowAt.madeEntries w 28 len _ _ (by unfold maxLen; omega), (Keeps.refl _ _).alloc _⟩
    case round =>
      obtain ⟨k, hk, rfl, hR, hK⟩ := hrel
      by_cases hlt : k < len
      · have hlt' : (k : Int) < (len : Int) := by omega
        have E1 := hE.keeps hK (by simp)
        obtain rfl := E1.addr (by omega)
        have g0 := E1.cell k (by omega)
        have d0 := hR.cell (k * 2) (by omega)
        have d1 := hR.cell (k * 2 + 1) (by omega)
        have dz := hR.frozen
        have hbl := E1.lt (by omega)
        have hrl := hR.lt
        have HR : Hid (RowAt wr w.heap.size 28 2 len len (ecell (part k z) (part k fun j => (j : Int))) ∧ Keeps [] w wr) := ⟨hR, hK⟩
        clear hR hK E1
        go_wp2
        go_roundw
        case rel => exact ⟨k + 1, by omega, by go_num, HR.out.1.stepEntry _ _ rfl rfl, (HR.out.2.setCell _ _ (.inr (Nat.le_refl _))).setCell _ _ (.inr (Nat.le_refl _))⟩
        case measure => simp [intOf]; omega
      · have hlt' : ¬ (k : Int) < (len : Int) := by omega
        have hR2 := hR.fullEntry (m := k) (by omega)
        have hsz := hK.size
        have hrl := hR.lt
        have RES := Restore_either kk w.heap.size 0 _ len len _ _ wr hR2.inRow (by omega) hkk
        have HK : Hid (Keeps [] w wr) := hK
        clear hR hR2 hK
        go_wp2_with fail
        refine RES.mono ?_
        rintro e w3 ⟨cb, rfl, H3, hcb, K3⟩
        clear RES
        have s3 := K3.size
        have c3 := H3.lt
        by_cases h0 : len = 0
        · have hd : decide (len = 0) = true := by simpa using h0
          have hz0 : ((len : Int) == 0) = true := by simpa using h0
          rw [hd]
          go_wp2_with fail
          refine (New_at kk w3).mono ?_
          rintro e w4 ⟨rfl, H4, K4, S4⟩
          have H5 := H3.keeps K4 (by simp) (by simp)
          have hne := cache_neq (show cb ≠ w3.heap.size by omega) H5 H4
          have E5 := eempty_new cb kk w4 H5
          have E4 := eempty_new w3.heap.size kk w4 H4
          go_wp2_with fail
          refine (eclamp_any kk w4).mono ?_
          rintro e w5 ⟨rfl, rfl⟩
          go_wp2_with fail
          refine E5.mono ?_
          rintro e w6 ⟨rfl, rfl⟩
          go_wp2_with fail
          refine E4.mono ?_
          rintro e w6 ⟨rfl, rfl⟩
          go_wp2
          go_ret
          exact ⟨rfl, ((HK.out.trans K3 (by simp)).trans K4 (by simp)).below (Nat.le_refl _) (by simp)⟩
        · have hd : decide (len = 0) = false := by simpa using h0
          have hz0 : ((len : Int) == 0) = false := beq_eq_false_iff_ne.2 (by omega)
          rw [hd]
          go_wp2_with fail
          refine (New_at kk w3).mono ?_
          rintro e w4 ⟨rfl, H4, K4, S4⟩
          have H5 := H3.keeps K4 (by simp) (by simp)
          have hne := cache_neq (show cb ≠ w3.heap.size by omega) H5 H4
          have E5 := eempty_new cb kk w4 H5
          have E4 := eempty_new w3.heap.size kk w4 H4
          go_wp2_with fail
          refine (eclamp_any kk w4).mono ?_
          rintro e w5 ⟨rfl, rfl⟩
          go_wp2_with fail
          refine E5.mono ?_
          rintro e w6 ⟨rfl, rfl⟩
          go_wp2_with fail
          refine E4.mono ?_
          rintro e w6 ⟨rfl, rfl⟩
          go_wp2
          go_ret
          exact ⟨rfl, ((HK.out.trans K3 (by simp)).trans K4 (by simp)).below (Nat.le_refl _) (by simp)⟩
end Go.Proofs.Ymbrdw
