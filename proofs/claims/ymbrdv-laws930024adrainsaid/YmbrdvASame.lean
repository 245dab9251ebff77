/- asame. -/
import Derived.Test.YmbrdvLists
import Derived.BigQuiet
namespace Go.Proofs.Ymbrdv
open Go.RowKit

/-- two caches are the same but for the links of the slot skip -/
structure SameBut (c d : Cs) (skip : Int) : Prop where
  n : d.n = c.n
  head : d.head = c.head
  tail : d.tail = c.tail
  free : d.free = c.free
  size : d.size = c.size
  cap : d.cap = c.cap
  kv : ∀ s, s < c.n → d.key s = c.key s ∧ d.val s = c.val s
  links : ∀ s : Nat, s < c.n → (s : Int) ≠ skip → d.prev s = c.prev s ∧ d.next s = c.next s

set_option maxRecDepth 100000 in
set_option maxHeartbeats 4000000 in
theorem asame_at (w : World) (cb nb db mb : Nat) (c d : Cs) (skip : Int) (H : CacheAt w cb nb c) (G : CacheAt w db mb d) (h0 : 0 < c.n) (hn : c.n ≤ 2000) (hs : SameBut c d skip) :
    Calls Ydvm.prog 19 #[.pointer (some ⟨cb, 0, none⟩), .pointer (some ⟨db, 0, none⟩), .int .i64 skip] w fun e w' => e = .returned (.bool true) ∧ Keeps [] w w' := by
  have c1 := H.c1
  have c2 := H.c2
  have c3 := H.c3
  have c4 := H.c4
  have c5 := H.c5
  have d1 := G.c1
  have d2 := G.c2
  have d3 := G.c3
  have d4 := G.c4
  have d5 := G.c5
  rw [hs.head] at d1
  rw [hs.tail] at d2
  rw [hs.free] at d3
  rw [hs.size] at d4
  rw [hs.cap] at d5
  obtain ⟨_, ncap, c0, R⟩ := H.row h0
  obtain ⟨_, mcap, d0, Q⟩ := G.row (by rw [hs.n]; exact h0)
  rw [hs.n] at d0 Q
  have HR : Hid (RowAt w nb 38 4 c.n ncap (ncell c.key c.val c.prev c.next) ∧ RowAt w mb 38 4 c.n mcap (ncell d.key d.val d.prev d.next) ∧ SameBut c d skip) := ⟨R, Q, hs⟩
  have hn' : (c.n : Int) ≤ 2000 := by omega
  obtain ⟨N, hN⟩ : ∃ N, N = c.n := ⟨_, rfl⟩
  rw [← hN] at hn' h0 hn c0 d0 HR
  have HN : Hid (N = c.n) := hN
  clear H G R Q hs hN
  go_enter Ydvm.func19, Ydvm.ntmps19
  go_wp2_with fail
  go_quiet (fail)
  go_wp2_with fail
  go_quiet (fail)
  go_wp2
  have HC : Hid (w.cell? ⟨cb, 0, none⟩ = some (.slice (some ⟨nb, 0, none⟩) N ncap) ∧ w.cell? ⟨db, 0, none⟩ = some (.slice (some ⟨mb, 0, none⟩) N mcap)) := ⟨c0, d0⟩
  clear c0 c1 c2 c3 c4 c5 d0 d1 d2 d3 d4 d5
  go_loopw [7] (fun i wr => ∃ s : Nat, s ≤ N ∧ i = .int .i64 s ∧ Keeps [] w wr) (fun i _ => N - (intOf i).toNat)
  case atStart => exact ⟨0, by omega, rfl, ((Keeps.refl _ _).drewN _).drewN _⟩
  case round =>
    obtain ⟨s, hs, rfl, hK⟩ := hrel
    have c0 := hK.cell HC.out.1 (by simp)
    have d0 := hK.cell HC.out.2 (by simp)
    by_cases hlt : s < N
    · have hlt' : (s : Int) < (N : Int) := by omega
      obtain ⟨x0, x1, x2, x3, _⟩ := (HR.out.1.keeps hK (by simp)).nodes
      obtain ⟨y0, y1, y2, y3, _⟩ := (HR.out.2.1.keeps hK (by simp)).nodes
      have a0 := x0 s hlt
      have a1 := x1 s hlt
      have a2 := x2 s hlt
      have a3 := x3 s hlt
      have b0 := y0 s hlt
      have b1 := y1 s hlt
      have b2 := y2 s hlt
      have b3 := y3 s hlt
      have e := HR.out.2.2.kv s (by rw [← HN.out]; exact hlt)
      rw [e.1] at b0
      rw [e.2] at b1
      have HK : Hid (Keeps [] w wr) := hK
      clear x0 x1 x2 x3 y0 y1 y2 y3 e hK
      by_cases hsk : (s : Int) = skip
      · have hb : ((s : Int) != skip) = false := by rw [hsk]; simp
        clear hsk
        go_wp2_with fail
        go_quiet (fail)
        go_wp2_with fail
        go_quiet (fail)
        go_wp2
        go_roundw
        case rel => exact ⟨s + 1, by omega, by go_num, HK.out.drewN _⟩
        case measure => simp [intOf]; omega
      · have hb : ((s : Int) != skip) = true := by rw [bne_iff_ne]; exact hsk
        have e := HR.out.2.2.links s (by rw [← HN.out]; exact hlt) hsk
        rw [e.1] at b2
        rw [e.2] at b3
        clear hsk e
        go_wp2_with fail
        go_quiet (fail)
        go_wp2_with fail
        go_quiet (fail)
        go_wp2
        go_roundw
        case rel => exact ⟨s + 1, by omega, by go_num, HK.out.drewN _⟩
        case measure => simp [intOf]; omega
    · have hlt' : ¬ (s : Int) < (N : Int) := by omega
      go_wp2
      go_ret
      exact ⟨rfl, hK⟩
end Go.Proofs.Ymbrdv
