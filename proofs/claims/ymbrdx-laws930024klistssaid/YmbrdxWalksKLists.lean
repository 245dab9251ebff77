/- The law KLists: her walk. -/
import Derived.Test.YmbrdxSame
import Derived.Test.YmbrdxLists
import Derived.Deep.DeepCutAuto
import Derived.Deep.CutBlock
namespace Go.Proofs.Ymbrdx
open Go.RowKit

theorem same_elist {la lb : Nat} {K V K' V' : Nat → Int} : SameEnts la K V lb K' V' ↔ elist la K V = elist lb K' V' := by
  constructor
  · rintro ⟨rfl, h⟩
    unfold elist
    exact List.map_congr_left fun j hj => by obtain ⟨h1, h2⟩ := h j (by simpa using hj); rw [h1, h2]
  · intro h
    have hl : la = lb := by have := congrArg List.length h; rwa [elist_length, elist_length] at this
    subst hl
    refine ⟨rfl, fun j hj => ?_⟩
    have a := elist_kv la K V j hj
    have b := elist_kv la K' V' j hj
    rw [← a.1, ← a.2, h, b.1, b.2]
    exact ⟨rfl, rfl⟩

theorem wrap_distinct (base : Int) (n : Nat) (hn : n ≤ 100000) : Distinct n (fun j => wrap64 (base + (j : Int))) := by
  intro i j h1 h2 he
  dsimp only at he
  unfold wrap64 at he; omega
theorem wrap_distinct2 (base d : Int) (n : Nat) (hn : n ≤ 100000) : Distinct n (fun j => wrap64 (wrap64 (base + (j : Int)) + d)) := by
  intro i j h1 h2 he
  dsimp only at he
  unfold wrap64 at he; omega
theorem swap_distinct {n : Nat} {K : Nat → Int} (h : Distinct n K) {k : Nat} (hk : k + 1 < n) : Distinct n (upd (upd K k (K (k + 1))) (k + 1) (K k)) := by
  intro i j h1 h2 he
  have hne : ∀ a b, a < n → b < n → K a = K b → a = b := fun a b ha hb e => by
    rcases Nat.lt_trichotomy a b with hl | hl | hl
    · exact absurd e (h a b hl hb)
    · exact hl
    · exact absurd e.symm (h b a hl ha)
  have e : ∀ x, upd (upd K k (K (k + 1))) (k + 1) (K k) x = K (if x = k then k + 1 else if x = k + 1 then k else x) := fun x => by
    unfold upd
    by_cases h1 : x = k + 1
    · rw [if_pos h1, if_neg (by omega), if_pos h1]
    · rw [if_neg h1]
      by_cases h2 : x = k
      · rw [if_pos h2, if_pos h2]
      · rw [if_neg h2, if_neg h2, if_neg h1]
  rw [e, e] at he
  have := hne _ _ (by split <;> (try split) <;> omega) (by split <;> (try split) <;> omega) he
  split at this <;> (try split at this) <;> (try split at this) <;> (try split at this) <;> omega

/-- what stands behind the switch -/
def KCut (w : World) (n b1 b2 : Nat) (K V : Nat → Int) (capC : Int) (f cd : Value) (wx : World) : Prop :=
  ∃ (lf : Nat) (K' V' : Nat → Int) (capD : Int), f = .slice (some ⟨b2, 0, none⟩) lf n ∧ cd = .int .i64 capD ∧ RowAt wx b2 26 2 lf n (ecell K' V') ∧ RowAt wx b1 26 2 n n (ecell K V) ∧ Distinct lf K' ∧ lf ≤ n ∧ (capD = capC ∨ capD = capC + 1) ∧ Keeps [] w wx

set_option maxRecDepth 100000 in
set_option maxHeartbeats 4000000 in
theorem walk_KLists (w : World) (a0 : Option Addr) (n cap : Nat) (V : Nat → Int) (hz : InInts .i64 w a0 n V) (base : Int) (_w1 : (Lit.int .i64 base).wf = true) (extra : Int) (w2 : (Lit.int .u8 extra).wf = true) (mode : Int) (w3 : (Lit.int .u8 mode).wf = true) (at_ : Int) (w4 : (Lit.int .u16 at_).wf = true) (d : Int) (_w5 : (Lit.int .i64 d).wf = true) :
    Calls Ydxm.prog 11 #[.slice a0 n cap, .int .i64 base, .int .u8 extra, .int .u8 mode, .int .u16 at_, .int .i64 d] w fun e w' => e = .returned (.bool true) ∧ Below w.heap.size w w' := by
  by_cases hbig : 256 < n
  · have hbig' : (256 : Int) < (n : Int) := by omega
    go_enter Ydxm.func11, Ydxm.ntmps11
    go_wp2
    go_ret
    exact ⟨rfl, Below.refl _ _⟩
  have hlen : (n : Int) ≤ 256 := by omega
  obtain ⟨⟨b, off, hE⟩, _⟩ := hz
  obtain ⟨h20, h21⟩ := wf_u8 w2
  obtain ⟨h30, h31⟩ := wf_u8 w3
  obtain ⟨h40, h41⟩ := wf_u16 w4
  have hmk := make_entries n (by omega)
  clear _w1 w2 w3 w4 _w5
  have HE : Hid (InRow w b off a0 n 1 (fun j => .int .i64 (V j))) := hE
  clear hE
  have hdk := wrap_distinct base n (by omega)
  have hdk2 := wrap_distinct2 base d n (by omega)
  have HDK : Hid (Distinct n (fun j => wrap64 (base + (j : Int))) ∧ Distinct n (fun j => wrap64 (wrap64 (base + (j : Int)) + d))) := ⟨hdk, hdk2⟩
  clear hdk hdk2
  go_enter Ydxm.func11, Ydxm.ntmps11
  go_wp2
  go_loopw [16] (fun i wr => ∃ k : Nat, k ≤ n ∧ i = .int .i64 k ∧ RowAt wr w.heap.size 26 2 n n (ecell (part k fun j => wrap64 (base + (j : Int))) (part k V)) ∧ RowAt wr (w.heap.size + 1) 26 2 n n (ecell (part k fun j => wrap64 (base + (j : Int))) (part k V)) ∧ Keeps [] w wr) (fun i _ => n - (intOf i).toNat)
  case atStart =>
    refine ⟨0, by omega, rfl, (RowAt.madeEntries w 26 n _ _ (by unfold maxLen; omega)).alloc _, ?_, ((Keeps.refl _ _).alloc _).alloc _⟩
    have := RowAt.madeEntries (w.alloc (.cells (madeCells #[.int .i64 0, .int .i64 0] (n * 2)) 26)) 26 n (fun j => wrap64 (base + (j : Int))) V (by unfold maxLen; omega)
    rw [World.size_alloc] at this
    exact this
  case round =>
    obtain ⟨k, hk, rfl, hR, hR2, hK⟩ := hrel
    by_cases hlt : k < n
    · have hlt' : (k : Int) < (n : Int) := by omega
      have E1 := HE.out.keeps hK (by simp)
      obtain rfl := E1.addr (by omega)
      have g0 := E1.cell k (by omega)
      have d0 := hR.cell (k * 2) (by omega)
      have d1 := hR.cell (k * 2 + 1) (by omega)
      have dz := hR.frozen
      have d02 := hR2.cell (k * 2) (by omega)
      have d12 := hR2.cell (k * 2 + 1) (by omega)
      have dz2 := hR2.frozen
      have hbl := E1.lt (by omega)
      have hrl := hR.lt
      have hrl2 := hR2.lt
      have HR : Hid (RowAt wr w.heap.size 26 2 n n (ecell (part k fun j => wrap64 (base + (j : Int))) (part k V)) ∧ RowAt wr (w.heap.size + 1) 26 2 n n (ecell (part k fun j => wrap64 (base + (j : Int))) (part k V)) ∧ Keeps [] w wr) := ⟨hR, hR2, hK⟩
      clear hR hR2 hK E1
      have hbw : b < w.heap.size := HE.out.lt (by omega)
      have hb1 : b ≠ w.heap.size := by omega
      have hb2 : b ≠ w.heap.size + 1 := by omega
      go_wp2
      go_roundw
      case rel =>
        refine ⟨k + 1, by omega, by go_num, ?_, ?_, ((((HR.out.2.2.setCell _ _ (.inr (Nat.le_refl _))).setCell _ _ (.inr (Nat.le_refl _))).setCell _ _ (.inr (Nat.le_succ _))).setCell _ _ (.inr (Nat.le_succ _)))⟩
        · exact ((HR.out.1.stepEntry _ _ rfl rfl).setOther _ _ (by simp)).setOther _ _ (by simp)
        · exact ((HR.out.2.1.setOther _ _ (by simp)).setOther _ _ (by simp)).stepEntry _ _ rfl rfl
      case measure => simp [intOf]; omega
    · have hlt' : ¬ (k : Int) < (n : Int) := by omega
      obtain rfl : k = n := by omega
      have hRa := hR.fullEntry (Nat.le_refl _)
      have hRb := hR2.fullEntry (Nat.le_refl _)
      have s1 := hK.size
      clear hR hR2
      obtain ⟨cc, hcc⟩ : ∃ cc : Int, cc = (k : Int) + extra := ⟨_, rfl⟩
      have HCC : Hid (cc = (k : Int) + extra) := hcc
      have hc0 : (k : Int) ≤ cc := by omega
      have hc1 : cc ≤ 1000 := by omega
      rw [eq_comm] at hcc
      have HB : Hid (RowAt wr w.heap.size 26 2 k k (ecell (fun j => wrap64 (base + (j : Int))) V) ∧ RowAt wr (w.heap.size + 1) 26 2 k k (ecell (fun j => wrap64 (base + (j : Int))) V) ∧ Keeps [] w wr) := ⟨hRa, hRb, hK⟩
      have hl2 := hRb.lt
      clear hRa hRb hK
      go_upto_block 2 with fail
      go_cut [15, 18, 69] (fun f cd _ wx => KCut w k w.heap.size (w.heap.size + 1) (fun j => wrap64 (base + (j : Int))) V cc f cd wx)
      case first =>
        obtain ⟨m, hm⟩ : ∃ m : Int, m = mode % 6 := ⟨_, rfl⟩
        have hm05 : m = 0 ∨ m = 1 ∨ m = 2 ∨ m = 3 ∨ m = 4 ∨ m = 5 := by omega
        rw [eq_comm] at hm
        rcases hm05 with rfl | rfl | rfl | rfl | rfl | rfl
        · go_wp2
          go_meet
          exact ⟨k, _, V, cc, rfl, rfl, HB.out.2.1, HB.out.1, HDK.out.1, Nat.le_refl _, .inl rfl, HB.out.2.2⟩
        · by_cases h0 : 0 < k
          · have h0' : (0 : Int) < (k : Int) := by omega
            have hk0 : ((k : Int) == 0) = false := beq_eq_false_iff_ne.2 (by omega)
            obtain ⟨p, hp⟩ : ∃ p : Nat, (p : Int) = at_ % (k : Int) := ⟨(at_ % (k : Int)).toNat, Int.toNat_of_nonneg (Int.emod_nonneg _ (by omega))⟩
            have hpl : p < k := by have := Int.emod_lt_of_pos at_ h0'; omega
            have hpl' : (p : Int) < (k : Int) := by omega
            rw [eq_comm] at hp
            obtain ⟨r0, r1⟩ := HB.out.2.1.ents p hpl
            have hfr := HB.out.2.1.frozen
            go_wp2
            go_meet
            exact ⟨k, _, _, cc, rfl, rfl, (HB.out.2.1.set _ _).congr (fun j _ => ecell_set1 _ _ p _ j), HB.out.1.setOther _ _ (by simp), HDK.out.1, Nat.le_refl _, .inl rfl, HB.out.2.2.setCell _ _ (.inr (Nat.le_succ _))⟩
          · have h0' : ¬ (0 : Int) < (k : Int) := by omega
            go_wp2
            go_meet
            exact ⟨k, _, V, cc, rfl, rfl, HB.out.2.1, HB.out.1, HDK.out.1, Nat.le_refl _, .inl rfl, HB.out.2.2⟩
        · go_wp2
          generalize wr = wo1 at *
          go_loopw [19] (fun i wq => ∃ t : Nat, t ≤ k ∧ i = .int .i64 t ∧ RowAt wq w.heap.size 26 2 k k (ecell (fun j => wrap64 (base + (j : Int))) V) ∧ RowAt wq (w.heap.size + 1) 26 2 k k (ecell (fun j => if j < t then wrap64 (wrap64 (base + (j : Int)) + d) else wrap64 (base + (j : Int))) V) ∧ Keeps [] w wq) (fun i _ => k - (intOf i).toNat)
          case atStart => exact ⟨0, by omega, rfl, HB.out.1, HB.out.2.1, HB.out.2.2⟩
          case round =>
            obtain ⟨t, ht, rfl, hRa, hRb, hKq⟩ := hrel
            have hl3 := hRb.lt
            by_cases htl : t < k
            · have htl' : (t : Int) < (k : Int) := by omega
              obtain ⟨r0, r1⟩ := hRb.ents t htl
              rw [if_neg (by omega)] at r0
              have hfr := hRb.frozen
              have HQ : Hid (RowAt wr w.heap.size 26 2 k k (ecell (fun j => wrap64 (base + (j : Int))) V) ∧ RowAt wr (w.heap.size + 1) 26 2 k k (ecell (fun j => if j < t then wrap64 (wrap64 (base + (j : Int)) + d) else wrap64 (base + (j : Int))) V) ∧ Keeps [] w wr) := ⟨hRa, hRb, hKq⟩
              clear hRa hRb hKq
              go_wp2
              go_roundw
              case rel =>
                refine ⟨t + 1, by omega, by go_num, HQ.out.1.setOther _ _ (by simp), ?_, HQ.out.2.2.setCell _ _ (.inr (Nat.le_succ _))⟩
                have := (HQ.out.2.1.set (t * 2) (.int .i64 (wrap64 (wrap64 (base + (t : Int)) + d)))).congr (fun j _ => ecell_set0 _ _ t _ j)
                rw [show upd (fun j : Nat => if j < t then wrap64 (wrap64 (base + (j : Int)) + d) else wrap64 (base + (j : Int))) t (wrap64 (wrap64 (base + (t : Int)) + d)) = (fun j : Nat => if j < t + 1 then wrap64 (wrap64 (base + (j : Int)) + d) else wrap64 (base + (j : Int))) from funext fun j => by
                  unfold upd
                  dsimp only
                  by_cases e : j = t
                  · rw [if_pos e, if_pos (by omega), e]
                  · rw [if_neg e]
                    by_cases e2 : j < t
                    · rw [if_pos e2, if_pos (by omega)]
                    · rw [if_neg e2, if_neg (by omega)]] at this
                exact this
              case measure => simp [intOf]; omega
            · have htl' : ¬ (t : Int) < (k : Int) := by omega
              obtain rfl : t = k := by omega
              go_wp2
              go_meet
              exact ⟨t, _, V, cc, rfl, rfl, hRb.congr (fun j hj => by unfold ecell; dsimp only; rw [if_pos (show j / 2 < t by omega)]), hRa, HDK.out.2, Nat.le_refl _, .inl rfl, hKq⟩
        · by_cases h0 : 0 < k
          · have h0' : (0 : Int) < (k : Int) := by omega
            obtain ⟨p, rfl⟩ : ∃ p, k = p + 1 := ⟨k - 1, by omega⟩
            go_wp2
            go_meet
            exact ⟨p, _, V, cc, rfl, rfl, HB.out.2.1.take (by omega), HB.out.1, fun i j h1 h2 => HDK.out.1 i j h1 (by omega), by omega, .inl rfl, HB.out.2.2⟩
          · have h0' : ¬ (0 : Int) < (k : Int) := by omega
            go_wp2
            go_meet
            exact ⟨k, _, V, cc, rfl, rfl, HB.out.2.1, HB.out.1, HDK.out.1, Nat.le_refl _, .inl rfl, HB.out.2.2⟩
        · by_cases h1 : 1 < k
          · have h1' : (1 : Int) < (k : Int) := by omega
            have hk0 : ((k : Int) - 1 == 0) = false := beq_eq_false_iff_ne.2 (by omega)
            obtain ⟨p, hp⟩ : ∃ p : Nat, (p : Int) = at_ % ((k : Int) - 1) := ⟨(at_ % ((k : Int) - 1)).toNat, Int.toNat_of_nonneg (Int.emod_nonneg _ (by omega))⟩
            have hpl : p + 1 < k := by have := Int.emod_lt_of_pos at_ (show (0 : Int) < (k : Int) - 1 by omega); omega
            have hpl' : (p : Int) < (k : Int) := by omega
            have hpl2 : (p : Int) + 1 < (k : Int) := by omega
            rw [eq_comm] at hp
            obtain ⟨r0, r1⟩ := HB.out.2.1.ents p (by omega)
            obtain ⟨q0, q1⟩ := HB.out.2.1.ents (p + 1) hpl
            have hfr := HB.out.2.1.frozen
            go_wp2
            go_meet
            have r4 := (HB.out.2.1.setEntry p (wrap64 (base + ((p : Int) + 1))) (V (p + 1))).setEntry (p + 1) (wrap64 (base + (p : Int))) (V p)
            refine ⟨k, _, _, cc, rfl, rfl, r4.alloc _, ((((HB.out.1.setOther _ _ (by simp)).setOther _ _ (by simp)).setOther _ _ (by simp)).setOther _ _ (by simp)).alloc _, ?_, Nat.le_refl _, .inl rfl, ((((HB.out.2.2.setCell _ _ (.inr (Nat.le_succ _))).setCell _ _ (.inr (Nat.le_succ _))).setCell _ _ (.inr (Nat.le_succ _))).setCell _ _ (.inr (Nat.le_succ _))).alloc _⟩
            have := swap_distinct HDK.out.1 hpl
            first
              | exact this
              | (rw [show ((p + 1 : Nat) : Int) = (p : Int) + 1 by omega] at this; exact this)
              | simpa using this
          · have h1' : ¬ (1 : Int) < (k : Int) := by omega
            go_wp2
            go_meet
            exact ⟨k, _, V, cc, rfl, rfl, HB.out.2.1, HB.out.1, HDK.out.1, Nat.le_refl _, .inl rfl, HB.out.2.2⟩
        · go_wp2
          go_meet
          exact ⟨k, _, V, cc + 1, rfl, rfl, HB.out.2.1, HB.out.1, HDK.out.1, Nat.le_refl _, .inr rfl, HB.out.2.2⟩
      case rest =>
        obtain ⟨lf, K', V', capD, rfl, rfl, RF, RE, hdf, hlf, hcd, KA⟩ := hcut
        have HDF : Hid (Distinct lf K') := hdf
        clear hdf
        rcases hcd with hcd | hcd
        · rw [eq_comm] at hcd
          subst hcd
          have ksm := ksame_at wc w.heap.size 0 k k (w.heap.size + 1) 0 lf k _ _ (fun j => wrap64 (base + (j : Int))) V K' V' RE.inRow RF.inRow (by omega)
          go_wp2_with fail
          refine ksm.mono ?_
          rintro e w8 ⟨bb, rfl, hbb, K8⟩
          clear ksm
          rw [same_elist] at hbb
          have hbd : bb = decide (elist k (fun j => wrap64 (base + (j : Int))) V = elist lf K' V') := by rw [Bool.eq_iff_iff, hbb, decide_eq_true_iff]
          have hbd' : bb = decide (elist lf K' V' = elist k (fun j => wrap64 (base + (j : Int))) V) := by rw [hbd]; exact decide_eq_decide.2 eq_comm
          have HBB : Hid (bb = decide (elist k (fun j => wrap64 (base + (j : Int))) V = elist lf K' V') ∧ bb = decide (elist lf K' V' = elist k (fun j => wrap64 (base + (j : Int))) V)) := ⟨hbd, hbd'⟩
          have R8 := RE.keeps K8 (by simp)
          have Q8 := RF.keeps K8 (by simp)
          have KF := KA.trans K8 (cs := []) (bs := []) (by simp)
          clear RE RF KA K8 hbb hbd hbd'
          go_wp2_with fail
          refine (Restore_held cc w.heap.size 0 _ k k _ V w8 R8.inRow (by omega)).mono ?_
          rintro e w9 ⟨K9, cb9, nb9, hcb9, hnb9, h | h⟩
          case inr => exact absurd ⟨by omega, HDK.out.1⟩ h.2.1
          obtain ⟨rfl, _, _, c9, C9, _⟩ := h
          rw [show max cc 0 = cc by omega] at C9
          have Q9 := Q8.keeps K9 (by simp)
          have KG := KF.trans K9 (cs := []) (bs := []) (by simp)
          clear K9 R8 Q8 KF
          go_wp2_with fail
          refine (Restore_held (cc) (w.heap.size + 1) 0 _ lf k K' V' w9 Q9.inRow (by omega)).mono ?_
          rintro e w10 ⟨K10, cb10, nb10, hcb10, hnb10, h | h⟩
          case inr => exact absurd ⟨by omega, HDF.out⟩ h.2.1
          obtain ⟨rfl, _, _, c10, D10, _⟩ := h
          rw [show max (cc) 0 = (cc) by omega] at D10
          have C10 := C9.keeps K10 (by simp) (by simp)
          have KH := KG.trans K10 (cs := []) (bs := []) (by simp)
          clear K10 C9 Q9 KG
          generalize elist k (fun j => wrap64 (base + (j : Int))) V = M at *
          generalize elist lf K' V' = M' at *
          go_wp2_with fail
          refine (Equal_held C10 D10 (by omega)).mono ?_
          rintro e w11 ⟨rfl, K11⟩
          have C11 := C10.keeps K11 (by simp) (by simp)
          have D11 := D10.keeps K11 (by simp) (by simp)
          have KI := KH.trans K11 (cs := []) (bs := []) (by simp)
          clear K11 C10 D10 KH
          rw [show decide (cc = cc ∧ M = M') = bb by rw [HBB.out.1]; simp]
          go_wp2_with fail
          refine (Equal_held D11 C11 (by omega)).mono ?_
          rintro e w12 ⟨rfl, K12⟩
          rw [show decide (cc = cc ∧ M' = M) = bb by rw [HBB.out.2]; simp]
          go_wp2
          go_ret
          exact ⟨rfl, (KI.trans K12 (cs := []) (bs := []) (by simp)).below (Nat.le_refl _) (by simp)⟩
        · subst hcd
          have hne : (cc == cc + 1) = false := beq_eq_false_iff_ne.2 (by omega)
          have R8 := RE
          have Q8 := RF
          have KF := KA
          clear RE RF KA
          generalize wc = w8 at *
          go_wp2_with fail
          refine (Restore_held cc w.heap.size 0 _ k k _ V w8 R8.inRow (by omega)).mono ?_
          rintro e w9 ⟨K9, cb9, nb9, hcb9, hnb9, h | h⟩
          case inr => exact absurd ⟨by omega, HDK.out.1⟩ h.2.1
          obtain ⟨rfl, _, _, c9, C9, _⟩ := h
          rw [show max cc 0 = cc by omega] at C9
          have Q9 := Q8.keeps K9 (by simp)
          have KG := KF.trans K9 (cs := []) (bs := []) (by simp)
          clear K9 R8 Q8 KF
          go_wp2_with fail
          refine (Restore_held (cc + 1) (w.heap.size + 1) 0 _ lf k K' V' w9 Q9.inRow (by omega)).mono ?_
          rintro e w10 ⟨K10, cb10, nb10, hcb10, hnb10, h | h⟩
          case inr => exact absurd ⟨by omega, HDF.out⟩ h.2.1
          obtain ⟨rfl, _, _, c10, D10, _⟩ := h
          rw [show max (cc + 1) 0 = (cc + 1) by omega] at D10
          have C10 := C9.keeps K10 (by simp) (by simp)
          have KH := KG.trans K10 (cs := []) (bs := []) (by simp)
          clear K10 C9 Q9 KG
          generalize elist k (fun j => wrap64 (base + (j : Int))) V = M at *
          generalize elist lf K' V' = M' at *
          go_wp2_with fail
          refine (Equal_held C10 D10 (by omega)).mono ?_
          rintro e w11 ⟨rfl, K11⟩
          have C11 := C10.keeps K11 (by simp) (by simp)
          have D11 := D10.keeps K11 (by simp) (by simp)
          have KI := KH.trans K11 (cs := []) (bs := []) (by simp)
          clear K11 C10 D10 KH
          rw [show decide (cc = cc + 1 ∧ M = M') = false from decide_eq_false (fun h => by have := h.1; omega)]
          go_wp2_with fail
          refine (Equal_held D11 C11 (by omega)).mono ?_
          rintro e w12 ⟨rfl, K12⟩
          rw [show decide (cc + 1 = cc ∧ M' = M) = false from decide_eq_false (fun h => by have := h.1; omega)]
          go_wp2
          go_ret
          exact ⟨rfl, (KI.trans K12 (cs := []) (bs := []) (by simp)).below (Nat.le_refl _) (by simp)⟩
end Go.Proofs.Ymbrdx
