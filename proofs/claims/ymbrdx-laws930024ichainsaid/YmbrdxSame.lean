/- Comparing two lists of entries. -/
import Derived.Test.YmbrdxCore5
namespace Go.Proofs.Ymbrdx
open Go.RowKit

/-- two lists of entries are the same -/
def SameEnts (la : Nat) (K V : Nat → Int) (lb : Nat) (K' V' : Nat → Int) : Prop := la = lb ∧ ∀ j, j < la → K j = K' j ∧ V j = V' j
/-- what a comparison of two lists answers -/
def SamePost (la : Nat) (K V : Nat → Int) (lb : Nat) (K' V' : Nat → Int) (w : World) (e : Ending) (w' : World) : Prop := ∃ b, e = .returned (.bool b) ∧ (b = true ↔ SameEnts la K V lb K' V') ∧ Keeps [] w w'

set_option maxHeartbeats 2000000 in
theorem isame_at (w : World) (ba oa la ca bb ob lb cb : Nat) (aa ab : Option Addr) (K V K' V' : Nat → Int) (ha : InRow w ba oa aa la 2 (ecell K V)) (hb : InRow w bb ob ab lb 2 (ecell K' V')) (hl : la ≤ 1000000) :
    Calls Ydxm.prog 16 #[.slice aa la ca, .slice ab lb cb] w (SamePost la K V lb K' V' w) := by
  have hl' : (la : Int) ≤ 1000000 := by omega
  by_cases hz : la = lb
  · subst hz
    have hen := entry_neq
    have HA : Hid (InRow w ba oa aa la 2 (ecell K V) ∧ InRow w bb ob ab la 2 (ecell K' V')) := ⟨ha, hb⟩
    clear ha hb
    go_enter Ydxm.func16, Ydxm.ntmps16
    go_wp2
    go_loopw [13] (fun n wr => ∃ k : Nat, k ≤ la ∧ Keeps [] w wr ∧ n = .int .i64 k ∧ ∀ j, j < k → K j = K' j ∧ V j = V' j) (fun n _ => la - (intOf n).toNat)
    case atStart => exact ⟨0, by omega, Keeps.refl _ _, rfl, fun j hj => absurd hj (by omega)⟩
    case round =>
      obtain ⟨k, hk, hK, rfl, hno⟩ := hrel
      by_cases hlt : k < la
      · have hlt' : (k : Int) < (la : Int) := by omega
        have A1 := HA.out.1.keeps hK (by simp)
        have B1 := HA.out.2.keeps hK (by simp)
        obtain ⟨e0, e1⟩ := A1.ents k hlt
        obtain ⟨f0, f1⟩ := B1.ents k hlt
        obtain rfl := A1.addr (by omega)
        obtain rfl := B1.addr (by omega)
        have HN : Hid (Keeps [] w wr ∧ ∀ j, j < k → K j = K' j ∧ V j = V' j) := ⟨hK, hno⟩
        clear hK hno A1 B1
        by_cases heq : K k = K' k ∧ V k = V' k
        · have HQ : Hid (K k = K' k ∧ V k = V' k) := heq
          rw [heq.1] at e0
          rw [heq.2] at e1
          clear heq
          go_wp2
          go_quiet (fail)
          go_wp2
          go_roundw
          case rel =>
            refine ⟨k + 1, by omega, HN.out.1.drewN _, by go_num, ?_⟩
            intro j hj
            by_cases e : j = k
            · subst e; exact HQ.out
            · exact HN.out.2 j (by omega)
          case measure => simp [intOf]; omega
        · have HQ : Hid (¬ (K k = K' k ∧ V k = V' k)) := heq
          have hb : (K k == K' k && V k == V' k) = false := by simpa using heq
          clear heq
          go_wp2
          go_quiet (fail)
          go_wp2
          go_ret
          exact ⟨false, rfl, ⟨fun h => absurd h (by simp), fun h => absurd (h.2 k hlt) HQ.out⟩, HN.out.1.drewN _⟩
      · have hlt' : ¬ (k : Int) < (la : Int) := by omega
        go_wp2
        go_ret
        exact ⟨true, rfl, ⟨fun _ => ⟨rfl, fun j hj => hno j (by omega)⟩, fun _ => rfl⟩, hK⟩
  · have hb : ((la : Int) != (lb : Int)) = true := by rw [bne_iff_ne]; omega
    go_enter Ydxm.func16, Ydxm.ntmps16
    go_wp2
    go_ret
    exact ⟨false, rfl, ⟨fun h => absurd h (by simp), fun h => absurd h.1 hz⟩, Keeps.refl _ _⟩

set_option maxHeartbeats 2000000 in
theorem ksame_at (w : World) (ba oa la ca bb ob lb cb : Nat) (aa ab : Option Addr) (K V K' V' : Nat → Int) (ha : InRow w ba oa aa la 2 (ecell K V)) (hb : InRow w bb ob ab lb 2 (ecell K' V')) (hl : la ≤ 1000000) :
    Calls Ydxm.prog 29 #[.slice aa la ca, .slice ab lb cb] w (SamePost la K V lb K' V' w) := by
  have hl' : (la : Int) ≤ 1000000 := by omega
  by_cases hz : la = lb
  · subst hz
    have HA : Hid (InRow w ba oa aa la 2 (ecell K V) ∧ InRow w bb ob ab la 2 (ecell K' V')) := ⟨ha, hb⟩
    clear ha hb
    go_enter Ydxm.func29, Ydxm.ntmps29
    go_wp2
    go_loopw [5] (fun n wr => ∃ k : Nat, k ≤ la ∧ Keeps [] w wr ∧ n = .int .i64 k ∧ ∀ j, j < k → K j = K' j ∧ V j = V' j) (fun n _ => la - (intOf n).toNat)
    case atStart => exact ⟨0, by omega, Keeps.refl _ _, rfl, fun j hj => absurd hj (by omega)⟩
    case round =>
      obtain ⟨k, hk, hK, rfl, hno⟩ := hrel
      by_cases hlt : k < la
      · have hlt' : (k : Int) < (la : Int) := by omega
        have A1 := HA.out.1.keeps hK (by simp)
        have B1 := HA.out.2.keeps hK (by simp)
        obtain ⟨e0, e1⟩ := A1.ents k hlt
        obtain ⟨f0, f1⟩ := B1.ents k hlt
        obtain rfl := A1.addr (by omega)
        obtain rfl := B1.addr (by omega)
        have HN : Hid (Keeps [] w wr ∧ ∀ j, j < k → K j = K' j ∧ V j = V' j) := ⟨hK, hno⟩
        clear hK hno A1 B1
        by_cases heq1 : K k = K' k
        · by_cases heq2 : V k = V' k
          · have HQ : Hid (K k = K' k ∧ V k = V' k) := ⟨heq1, heq2⟩
            rw [heq1] at e0
            rw [heq2] at e1
            clear heq1 heq2
            go_wp2
            go_quiet (fail)
            go_wp2
            go_roundw
            case rel =>
              refine ⟨k + 1, by omega, HN.out.1.drewN _, by go_num, ?_⟩
              intro j hj
              by_cases e : j = k
              · subst e; exact HQ.out
              · exact HN.out.2 j (by omega)
            case measure => simp [intOf]; omega
          · have HQ : Hid (¬ V k = V' k) := heq2
            have hb : (V k != V' k) = true := by rw [bne_iff_ne]; exact heq2
            rw [heq1] at e0
            clear heq1 heq2
            go_wp2
            go_quiet (fail)
            go_wp2
            go_ret
            exact ⟨false, rfl, ⟨fun h => absurd h (by simp), fun h => absurd (h.2 k hlt).2 HQ.out⟩, HN.out.1.drewN _⟩
        · have HQ : Hid (¬ K k = K' k) := heq1
          have hb : (K k != K' k) = true := by rw [bne_iff_ne]; exact heq1
          clear heq1
          go_wp2
          go_quiet (fail)
          go_wp2
          go_ret
          exact ⟨false, rfl, ⟨fun h => absurd h (by simp), fun h => absurd (h.2 k hlt).1 HQ.out⟩, HN.out.1.drewN _⟩
      · have hlt' : ¬ (k : Int) < (la : Int) := by omega
        go_wp2
        go_ret
        exact ⟨true, rfl, ⟨fun _ => ⟨rfl, fun j hj => hno j (by omega)⟩, fun _ => rfl⟩, hK⟩
  · have hb : ((la : Int) != (lb : Int)) = true := by rw [bne_iff_ne]; omega
    go_enter Ydxm.func29, Ydxm.ntmps29
    go_wp2
    go_ret
    exact ⟨false, rfl, ⟨fun h => absurd h (by simp), fun h => absurd h.1 hz⟩, Keeps.refl _ _⟩
end Go.Proofs.Ymbrdx
