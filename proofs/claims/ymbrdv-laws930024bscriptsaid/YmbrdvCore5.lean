/- '==' and '!=' on entries; the walk of Equal. -/
import Derived.Test.YmbrdvCore4
import Derived.WalkLawsBesides
namespace Go.Proofs.Ymbrdv
open Go.RowKit
theorem entry_eqIn (a b a' b' : Int) (w : World) : (Op.equalIn 10000 36 (.agg #[.int .i64 a, .int .i64 b]) (.agg #[.int .i64 a', .int .i64 b'])).run Ydvm.prog w = .ok (a == a' && b == b') w := by
  by_cases h1 : a = a'
  · subst h1
    by_cases h2 : b = b'
    · subst h2; simp [go_sem, Ydvm.underlying36]
    · simp [go_sem, Ydvm.underlying36, h2]
  · simp [go_sem, Ydvm.underlying36, h1]
theorem entry_neq (a b a' b' : Int) (w : World) : (binOp .neq 36 (.agg #[.int .i64 a, .int .i64 b]) (.agg #[.int .i64 a', .int .i64 b'])).run Ydvm.prog w = .ok (.bool (!(a == a' && b == b'))) w := by
  rw [run_neq_struct, entry_eqIn]; rfl
theorem entry_eql (a b a' b' : Int) (w : World) : (binOp .eql 36 (.agg #[.int .i64 a, .int .i64 b]) (.agg #[.int .i64 a', .int .i64 b'])).run Ydvm.prog w = .ok (.bool (a == a' && b == b')) w := by
  rw [run_eql_struct, entry_eqIn]; rfl

/-- when two caches are equal -/
def Cs.same (c d : Cs) : Prop := c.cap = d.cap ∧ c.size = d.size ∧ ∀ j : Nat, (j : Int) < c.size → c.ek j = d.ek j ∧ c.ev j = d.ev j

/-- what Equal answers -/
def EqPost (c d : Cs) (w : World) (e : Ending) (w' : World) : Prop := ∃ b, e = .returned (.bool b) ∧ (b = true ↔ c.same d) ∧ Keeps [] w w'

set_option maxHeartbeats 2000000 in
theorem Equal_at (cb nb db mb : Nat) (c d : Cs) (w : World) (H : CacheAt w cb nb c) (G : CacheAt w db mb d) (hs : 0 ≤ c.size) (hs' : c.size ≤ 1000000)
    (hl : ∀ k : Nat, (k : Int) < c.size → ∃ s : Nat, c.slot k = s ∧ s < c.n) (gl : ∀ k : Nat, (k : Int) < d.size → ∃ s : Nat, d.slot k = s ∧ s < d.n) :
    Calls Ydvm.prog 37 #[.pointer (some ⟨cb, 0, none⟩), .pointer (some ⟨db, 0, none⟩)] w (EqPost c d w) := by
  have c1 := H.c1
  have c4 := H.c4
  have c5 := H.c5
  have d1 := G.c1
  have d4 := G.c4
  have d5 := G.c5
  have HH : Hid (CacheAt w cb nb c ∧ CacheAt w db mb d) := ⟨H, G⟩
  have HL : Hid ((∀ k : Nat, (k : Int) < c.size → ∃ s : Nat, c.slot k = s ∧ s < c.n) ∧ (∀ k : Nat, (k : Int) < d.size → ∃ s : Nat, d.slot k = s ∧ s < d.n)) := ⟨hl, gl⟩
  clear H G hl gl
  by_cases hc : c.cap = d.cap
  · have HC : Hid (c.cap = d.cap) := hc
    rw [hc] at c5
    by_cases hz : c.size = d.size
    · have HZ : Hid (c.size = d.size) := hz
      rw [← hz] at d4
      clear hz hc
      have hen := entry_neq
      go_enter Ydvm.func37, Ydvm.ntmps37
      go_wp2
      go_quiet (fail)
      go_wp2
      go_loopw [5, 6, 7] (fun i j n wr => ∃ k : Nat, (k : Int) ≤ c.size ∧ Keeps [] w wr ∧ n = .int .i64 k ∧ i = .int .i64 (c.slot k) ∧ j = .int .i64 (d.slot k) ∧ ∀ j, j < k → c.ek j = d.ek j ∧ c.ev j = d.ev j) (fun _ _ n _ => c.size.toNat - (intOf n).toNat)
      case atStart => exact ⟨0, by omega, (Keeps.refl _ _).drewN _, rfl, rfl, rfl, fun j hj => absurd hj (by omega)⟩
      case round =>
        obtain ⟨k, hk, hK, rfl, rfl, rfl, hno⟩ := hrel
        have C1 := HH.out.1.keeps hK (by simp) (by simp)
        have D1 := HH.out.2.keeps hK (by simp) (by simp)
        have x4 := C1.c4
        by_cases hlt : (k : Int) < c.size
        · obtain ⟨s, hs1, hs2⟩ := HL.out.1 k hlt
          obtain ⟨t, ht1, ht2⟩ := HL.out.2 k (by rw [← HZ.out]; exact hlt)
          obtain ⟨_, ncap, a0, r⟩ := C1.row (by omega)
          obtain ⟨k0, k1, _, k3, _⟩ := r.nodes
          obtain ⟨_, mcap, b0, r'⟩ := D1.row (by omega)
          obtain ⟨m0, m1, _, m3, _⟩ := r'.nodes
          have e0 := k0 s hs2
          have e1 := k1 s hs2
          have e3 := k3 s hs2
          have f0 := m0 t ht2
          have f1 := m1 t ht2
          have f3 := m3 t ht2
          have hs3 : (s : Int) < (c.n : Int) := by omega
          have ht3 : (t : Int) < (d.n : Int) := by omega
          have HS : Hid (c.slot k = s ∧ d.slot k = t) := ⟨hs1, ht1⟩
          have HN : Hid (Keeps [] w wr ∧ ∀ j, j < k → c.ek j = d.ek j ∧ c.ev j = d.ev j) := ⟨hK, hno⟩
          have hek : c.ek k = c.key s := by unfold Cs.ek; rw [hs1]; rfl
          have hev : c.ev k = c.val s := by unfold Cs.ev; rw [hs1]; rfl
          have gek : d.ek k = d.key t := by unfold Cs.ek; rw [ht1]; rfl
          have gev : d.ev k = d.val t := by unfold Cs.ev; rw [ht1]; rfl
          have HE : Hid (c.ek k = c.key s ∧ c.ev k = c.val s ∧ d.ek k = d.key t ∧ d.ev k = d.val t) := ⟨hek, hev, gek, gev⟩
          rw [hs1, ht1]
          clear hs1 ht1 hK hno r r' k0 k1 k3 m0 m1 m3 C1 D1 hek hev gek gev c1 c4 c5 d1 d4 d5
          by_cases heq : c.key s = d.key t ∧ c.val s = d.val t
          · have HQ : Hid (c.key s = d.key t ∧ c.val s = d.val t) := heq
            rw [heq.1] at e0
            rw [heq.2] at e1
            clear heq
            go_wp2
            go_quiet (fail)
            go_wp2
            go_roundw
            case rel =>
              refine ⟨k + 1, by omega, HN.out.1.drewN _, by go_num, ?_, ?_, ?_⟩
              · show _ = Value.int .i64 (c.next (c.slot k).toNat); rw [HS.out.1]; rfl
              · show _ = Value.int .i64 (d.next (d.slot k).toNat); rw [HS.out.2]; rfl
              · intro j hj
                by_cases e : j = k
                · subst e; rw [HE.out.1, HE.out.2.1, HE.out.2.2.1, HE.out.2.2.2]; exact HQ.out
                · exact HN.out.2 j (by omega)
            case measure => simp [intOf]; omega
          · have HQ : Hid (¬ (c.key s = d.key t ∧ c.val s = d.val t)) := heq
            have hb : (c.key s == d.key t && c.val s == d.val t) = false := by simpa using heq
            clear heq
            go_wp2
            go_quiet (fail)
            go_wp2
            go_ret
            refine ⟨false, rfl, ⟨fun h => absurd h (by simp), fun h => ?_⟩, HN.out.1.drewN _⟩
            have := h.2.2 k hlt
            rw [HE.out.1, HE.out.2.1, HE.out.2.2.1, HE.out.2.2.2] at this
            exact absurd this HQ.out
        · go_wp2
          go_ret
          exact ⟨true, rfl, ⟨fun _ => ⟨HC.out, HZ.out, fun j hj => hno j (by omega)⟩, fun _ => rfl⟩, hK⟩
    · have HZ : Hid (¬ c.size = d.size) := hz
      have hb : (c.size != d.size) = true := by rw [bne_iff_ne]; exact hz
      clear hz hc
      go_enter Ydvm.func37, Ydvm.ntmps37
      go_wp2
      go_quiet (fail)
      go_wp2
      go_ret
      exact ⟨false, rfl, ⟨fun h => absurd h (by simp), fun h => absurd h.2.1 HZ.out⟩, (Keeps.refl _ _).drewN _⟩
  · have HC : Hid (¬ c.cap = d.cap) := hc
    have hb : (c.cap != d.cap) = true := by rw [bne_iff_ne]; exact hc
    clear hc
    go_enter Ydvm.func37, Ydvm.ntmps37
    go_wp2
    go_quiet (fail)
    go_wp2
    go_ret
    exact ⟨false, rfl, ⟨fun h => absurd h (by simp), fun h => absurd h.1 HC.out⟩, (Keeps.refl _ _).drewN _⟩
end Go.Proofs.Ymbrdv
