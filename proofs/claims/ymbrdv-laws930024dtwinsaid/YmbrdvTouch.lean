/- The key that is picked, and the order after a Get, as the laws D compute them. -/
import Derived.Test.YmbrdvLists
namespace Go.Proofs.Ymbrdv
open Go.RowKit

def dkeyOf (M : List (Int × Int)) (pick key : Int) : Int := if 0 < M.length ∧ pick % 4 ≠ 0 then eK M (pick % (M.length : Int)).toNat else key

set_option maxHeartbeats 2000000 in
theorem dkey_at (w : World) (M : List (Int × Int)) (b ecap : Nat) (pick key : Int) (hR : RowAt w b 36 2 M.length ecap (ecell (eK M) (eV M))) (hM : M.length ≤ 100000) (hp0 : 0 ≤ pick) (hp1 : pick ≤ 255) :
    Calls Ydvm.prog 33 #[.slice (some ⟨b, 0, none⟩) M.length ecap, .int .u8 pick, .int .i64 key] w fun e w' => e = .returned (.int .i64 (dkeyOf M pick key)) ∧ Keeps [] w w' := by
  have hMi : (M.length : Int) ≤ 100000 := by omega
  unfold dkeyOf
  by_cases h0 : 0 < M.length
  · have h0' : (0 : Int) < (M.length : Int) := by omega
    by_cases h4 : pick % 4 = 0
    · rw [if_neg (fun h => h.2 h4)]
      go_enter Ydvm.func33, Ydvm.ntmps33
      go_wp2
      go_ret
      exact ⟨rfl, Keeps.refl _ _⟩
    · rw [if_pos ⟨h0, h4⟩]
      have h4' : (pick % 4 != 0) = true := by rw [bne_iff_ne]; exact h4
      obtain ⟨k, hk⟩ : ∃ k : Nat, (k : Int) = pick % (M.length : Int) := ⟨(pick % (M.length : Int)).toNat, Int.toNat_of_nonneg (Int.emod_nonneg _ (by omega))⟩
      have hkl : k < M.length := by have := Int.emod_lt_of_pos pick h0'; omega
      have hkl' : (k : Int) < (M.length : Int) := by omega
      have hM0 : ((M.length : Int) == 0) = false := beq_eq_false_iff_ne.2 (by omega)
      rw [← hk, Int.toNat_natCast]
      obtain ⟨r0, r1⟩ := hR.ents k hkl
      have hbl := hR.lt
      rw [eq_comm] at hk
      clear h4
      go_enter Ydvm.func33, Ydvm.ntmps33
      go_wp2
      go_ret
      exact ⟨rfl, by first | exact Keeps.refl _ _ | exact (Keeps.refl _ _).drew | exact (Keeps.refl _ _).drewN _⟩
  · have h0' : ¬ (0 : Int) < (M.length : Int) := by omega
    rw [if_neg (fun h => h0 h.1)]
    go_enter Ydvm.func33, Ydvm.ntmps33
    go_wp2
    go_ret
    exact ⟨rfl, Keeps.refl _ _⟩

theorem idx_append1 {key : Int} {e : Int × Int} : ∀ A : List (Int × Int), idx key (A ++ [e]) = (idx key A).or (if e.1 = key then some A.length else none)
  | [] => by simp [idx]
  | x :: t => by
    show (if x.1 = key then some 0 else (idx key (t ++ [e])).map (· + 1)) = (if x.1 = key then some 0 else (idx key t).map (· + 1)).or _
    by_cases h : x.1 = key
    · simp [h]
    · rw [if_neg h, if_neg h, idx_append1 t]
      cases idx key t <;> simp
theorem idx_take {key : Int} {M : List (Int × Int)} {k : Nat} (hk : k < M.length) : idx key (M.take (k + 1)) = (idx key (M.take k)).or (if eK M k = key then some k else none) := by
  rw [List.take_succ_eq_append_getElem hk, idx_append1, ← eKV_get hk, List.length_take, show min k M.length = k by omega]

/-- the place as a number -/
def atOf : Option Nat → Int
  | none => -1
  | some p => p
/-- all but the element at a place -/
def skp (a : Int) (M : List (Int × Int)) (k : Nat) : List (Int × Int) := ((List.range k).filter fun i : Nat => decide ((i : Int) ≠ a)).map fun i => (eK M i, eV M i)
theorem skp_no {a : Int} {M : List (Int × Int)} {k : Nat} (h : (k : Int) = a) : skp a M (k + 1) = skp a M k := by unfold skp; rw [List.range_succ, List.filter_append]; simp [h]
theorem skp_yes {a : Int} {M : List (Int × Int)} {k : Nat} (h : ¬ (k : Int) = a) : skp a M (k + 1) = skp a M k ++ [(eK M k, eV M k)] := by unfold skp; rw [List.range_succ, List.filter_append]; simp [h]
theorem skp_le (a : Int) (M : List (Int × Int)) (k : Nat) : (skp a M k).length ≤ k := by
  unfold skp; rw [List.length_map]; exact Nat.le_trans (List.length_filter_le _ _) (by simp)
theorem skp_none (M : List (Int × Int)) : ∀ k, k ≤ M.length → skp (-1) M k = M.take k
  | 0, _ => by simp [skp]
  | k + 1, h => by rw [skp_yes (by omega), skp_none M k (by omega), List.take_succ_eq_append_getElem (show k < M.length by omega), eKV_get (by omega)]
theorem skp_some (M : List (Int × Int)) (p : Nat) : ∀ k, k ≤ M.length → skp p M k = (M.take k).eraseIdx p
  | 0, _ => by simp [skp]
  | k + 1, h => by
    have hl : (M.take k).length = k := by rw [List.length_take]; omega
    by_cases e : k = p
    · subst e
      rw [skp_no rfl, skp_some M k k (by omega), List.take_succ_eq_append_getElem (show k < M.length by omega), List.eraseIdx_append_of_length_le (by omega), List.eraseIdx_of_length_le (by omega), hl]
      simp
    · rw [skp_yes (by omega), skp_some M p k (by omega), List.take_succ_eq_append_getElem (show k < M.length by omega), eKV_get (by omega)]
      by_cases hp : p < k
      · rw [List.eraseIdx_append_of_lt_length (by omega)]
      · rw [List.eraseIdx_of_length_le (by omega), List.eraseIdx_of_length_le (by simp; omega)]

/-- what dtouch answers -/
def DtouchPost (M : List (Int × Int)) (key : Int) (w : World) (e : Ending) (w' : World) : Prop :=
  ∃ b' cap', e = .returned (.tuple #[.slice (some ⟨b', 0, none⟩) (mget M key).length cap', .int .i64 (mpeek M key), .bool (idx key M).isSome]) ∧ RowAt w' b' 36 2 (mget M key).length cap' (ecell (eK (mget M key)) (eV (mget M key))) ∧ w.heap.size ≤ b' ∧ Keeps [] w w'

set_option maxRecDepth 100000 in
set_option maxHeartbeats 4000000 in
theorem dtouch_at (w : World) (M : List (Int × Int)) (b ecap : Nat) (key : Int) (hR : RowAt w b 36 2 M.length ecap (ecell (eK M) (eV M))) (hM : M.length ≤ 100000) :
    Calls Ydvm.prog 34 #[.slice (some ⟨b, 0, none⟩) M.length ecap, .int .i64 key] w (DtouchPost M key w) := by
  have hMi : (M.length : Int) ≤ 100000 := by omega
  have hbl := hR.lt
  have hmk := make_entries0 M.length (by omega)
  have HR : Hid (RowAt w b 36 2 M.length ecap (ecell (eK M) (eV M))) := hR
  obtain ⟨i0, hi0, hz0, hz1, hz2⟩ := info_parts infoEntry
  clear hR
  go_enter Ydvm.func34, Ydvm.ntmps34
  go_wp2
  go_loopw [7, 8] (fun a i wr => ∃ k : Nat, k ≤ M.length ∧ i = .int .i64 k ∧ a = .int .i64 (atOf (idx key (M.take k))) ∧ Keeps [] w wr) (fun _ i _ => M.length - (intOf i).toNat)
  case atStart => exact ⟨0, by omega, rfl, rfl, Keeps.refl _ _⟩
  case round =>
    obtain ⟨k, hk, rfl, rfl, hK⟩ := hrel
    have hkz := hK.size
    by_cases hlt : k < M.length
    · have hlt' : (k : Int) < (M.length : Int) := by omega
      obtain ⟨e0, e1⟩ := (HR.out.keeps hK (by simp)).ents k hlt
      have HT : Hid (idx key (M.take (k + 1)) = (idx key (M.take k)).or (if eK M k = key then some k else none)) := idx_take hlt
      have HK : Hid (Keeps [] w wr) := hK
      clear hK
      cases hx : idx key (M.take k) with
      | some p =>
        have HX : Hid (idx key (M.take k) = some p) := hx
        have hp : ¬ (p : Int) < 0 := by omega
        clear hx
        rw [show atOf (some p) = (p : Int) from rfl]
        go_wp2
        go_roundw
        case rel => exact ⟨k + 1, by omega, by go_num, by rw [HT.out, HX.out]; rfl, HK.out⟩
        case measure => simp [intOf]; omega
      | none =>
        have HX : Hid (idx key (M.take k) = none) := hx
        clear hx
        rw [show atOf none = (-1 : Int) from rfl]
        by_cases heq : eK M k = key
        · have HQ : Hid (eK M k = key) := heq
          rw [heq] at e0
          clear heq
          go_wp2
          go_roundw
          case rel => exact ⟨k + 1, by omega, by go_num, by rw [HT.out, HX.out, if_pos HQ.out]; rfl, HK.out⟩
          case measure => simp [intOf]; omega
        · have HQ : Hid (¬ eK M k = key) := heq
          have hbb : (eK M k == key) = false := beq_eq_false_iff_ne.2 heq
          clear heq
          go_wp2
          go_roundw
          case rel => exact ⟨k + 1, by omega, by go_num, by rw [HT.out, HX.out, if_neg HQ.out]; rfl, HK.out⟩
          case measure => simp [intOf]; omega
    · have hlt' : ¬ (k : Int) < (M.length : Int) := by omega
      obtain rfl : k = M.length := by omega
      rw [List.take_length]
      cases hx : idx key M with
      | none =>
        have HX : Hid (idx key M = none) := hx
        have HK : Hid (Keeps [] w wr) := hK
        clear hx hK
        rw [show atOf none = (-1 : Int) from rfl]
        have HS : Hid (RowAt (wr.alloc (.cells (madeCells #[.int .i64 0, .int .i64 0] (M.length * 2)) 36)) wr.heap.size 36 2 ([] : List (Int × Int)).length M.length (ecell (eK []) (eV [])) ∧ w.heap.size ≤ wr.heap.size ∧ Keeps [] w (wr.alloc (.cells (madeCells #[.int .i64 0, .int .i64 0] (M.length * 2)) 36))) := ⟨RowAt.made0 _ _ _ _ _ (by unfold maxLen; omega), hkz, HK.out.alloc _⟩
        go_wp2
        go_loopw [10, 11] (fun v j wr => ∃ k bk ck : Nat, ∃ Wk : List (Int × Int), k ≤ M.length ∧ j = .int .i64 k ∧ v = .slice (some ⟨bk, 0, none⟩) Wk.length ck ∧ Wk = ([] : List (Int × Int)) ++ skp (-1) M k ∧ RowAt wr bk 36 2 Wk.length ck (ecell (eK Wk) (eV Wk)) ∧ w.heap.size ≤ bk ∧ Keeps [] w wr) (fun _ j _ => M.length - (intOf j).toNat)
        case atStart => exact ⟨0, _, _, ([] : List (Int × Int)), by omega, rfl, rfl, by simp [skp], HS.out.1, HS.out.2.1, HS.out.2.2⟩
        case round =>
          obtain ⟨k, bk, ck, Wk, hk, rfl, rfl, hWk, hR, hbk, hK⟩ := hrel
          have hkz := hK.size
          have hWl : Wk.length ≤ k + 1 := by
            have := skp_le (-1) M k
            rw [hWk, List.length_append]; simp; omega
          by_cases hlt : k < M.length
          · have hlt' : (k : Int) < (M.length : Int) := by omega
            obtain ⟨e0, e1⟩ := (HR.out.keeps hK (by simp)).ents k hlt
            have hbl : b < wr.heap.size := by omega
            have HI : Hid (Wk = ([] : List (Int × Int)) ++ skp (-1) M k ∧ RowAt wr bk 36 2 Wk.length ck (ecell (eK Wk) (eV Wk)) ∧ Keeps [] w wr) := ⟨hWk, hR, hK⟩
            clear hWk hR hK
            by_cases heq : (k : Int) = (-1)
            · have HQ : Hid ((k : Int) = (-1)) := heq
              have hbb : ((k : Int) != (-1)) = false := by rw [bne_eq_false_iff_eq]; exact heq
              clear heq
              go_wp2
              go_roundw
              case rel => exact ⟨k + 1, bk, ck, Wk, by omega, by go_num, rfl, by rw [skp_no HQ.out]; exact HI.out.1, HI.out.2.1, hbk, HI.out.2.2⟩
              case measure => simp [intOf]; omega
            · have HQ : Hid (¬ (k : Int) = (-1)) := heq
              have hbb : ((k : Int) != (-1)) = true := by rw [bne_iff_ne]; exact heq
              clear heq
              go_wp2_with (at_builtin; refine wp_append1 _ rfl (.tmp 56) (.tmp 61) 49 rfl 36 i0 _ 2 16 Ydvm.underlying49 hi0 hz0 hz1 hz2 rfl (by omega) (.slice (some ⟨bk, 0, none⟩) Wk.length ck) Wk.length (ecell (eK Wk) (eV Wk)) rfl ?hS wr.heap.size rfl #[.int .i64 (eK M k), .int .i64 (eV M k)] 36 ?hB rfl ?h1 (by omega) (by omega) ?_)
              case hS => exact (HI.out.2.1.alloc _).sliceAt
              case hB => first | exact heap_alloc_new _ _ | exact (Array.getElem?_eq_some_iff.1 (heap_alloc_new _ _)).2
              case h1 => first | exact ⟨rfl, rfl⟩ | (simp; exact ⟨rfl, rfl⟩)
              intro b' cap' w5 hr2 hk2 hbb2
              have hr3 := hr2.snocE
              have hk3 : Keeps [] w w5 := (HI.out.2.2.alloc _).trans hk2 (fun x hx => .inr (by simp [Value.ownBlock] at hx; omega))
              have hb3 : w.heap.size ≤ b' := by
                rcases hbb2 with h | h
                · simp [Value.ownBlock] at h; omega
                · (try simp at h); omega
              have HN : Hid (RowAt w5 b' 36 2 (Wk ++ [(eK M k, eV M k)]).length cap' (ecell (eK (Wk ++ [(eK M k, eV M k)])) (eV (Wk ++ [(eK M k, eV M k)]))) ∧ Keeps [] w w5) := ⟨hr3, hk3⟩
              clear hr2 hk2 hbb2 hr3 hk3 e0 e1
              go_wp2
              go_roundw
              case rel => exact ⟨k + 1, b', cap', Wk ++ [(eK M k, eV M k)], by omega, by go_num, by simp, by rw [skp_yes HQ.out, ← List.append_assoc, ← HI.out.1], HN.out.1, hb3, HN.out.2⟩
              case measure => simp [intOf]; omega
          · have hlt' : ¬ (k : Int) < (M.length : Int) := by omega
            obtain rfl : k = M.length := by omega
            obtain rfl : Wk = mget M key := by rw [hWk]; rw [skp_none M _ (Nat.le_refl _), List.take_length]; unfold mget; rw [HX.out]; rfl
            clear hWk
            go_wp2
            exact bodyPost_ret (v := .tuple #[.slice (some ⟨bk, 0, none⟩) (mget M key).length ck, .int .i64 0, .bool false]) (by simp [results, Ydvm.results34, go_sem]) rfl ⟨bk, ck, by unfold mpeek; rw [HX.out]; rfl, hR, hbk, hK⟩
      | some p =>
        have HX : Hid (idx key M = some p) := hx
        have HK : Hid (Keeps [] w wr) := hK
        have hpl : p < M.length := by obtain ⟨e, h1, _, _⟩ := idx_some hx; exact (List.getElem?_eq_some_iff.1 h1).1
        have hpl' : (p : Int) < (M.length : Int) := by omega
        have hp0 : (0 : Int) ≤ (p : Int) := by omega
        obtain ⟨e0, e1⟩ := (HR.out.keeps hK (by simp)).ents p hpl
        have hbl2 : b < wr.heap.size := by omega
        clear hx hK
        rw [show atOf (some p) = (p : Int) from rfl]
        have HS0 : Hid (RowAt (wr.alloc (.cells (madeCells #[.int .i64 0, .int .i64 0] (M.length * 2)) 36)) wr.heap.size 36 2 ([] : List (Int × Int)).length M.length (ecell (eK []) (eV [])) ∧ Keeps [] w (wr.alloc (.cells (madeCells #[.int .i64 0, .int .i64 0] (M.length * 2)) 36))) := ⟨RowAt.made0 _ _ _ _ _ (by unfold maxLen; omega), HK.out.alloc _⟩
        go_wp2_with (at_builtin; refine wp_append1 _ rfl (.tmp 40) (.tmp 45) 49 rfl 36 i0 _ 2 16 Ydvm.underlying49 hi0 hz0 hz1 hz2 rfl (by omega) (.slice (some ⟨wr.heap.size, 0, none⟩) 0 M.length) 0 (ecell (eK []) (eV [])) rfl ?hS (wr.heap.size + 1) rfl #[.int .i64 (eK M p), .int .i64 (eV M p)] 36 ?hB rfl ?h1 (by omega) (by omega) ?_)
        case hS => exact (HS0.out.1.alloc _).sliceAt
        case hB =>
          have := heap_alloc_new (wr.alloc (.cells (madeCells #[.int .i64 0, .int .i64 0] (M.length * 2)) 36)) (.cells #[.int .i64 (eK M p), .int .i64 (eV M p)] 36)
          rw [World.size_alloc] at this
          first | exact this | exact (Array.getElem?_eq_some_iff.1 this).2
        case h1 => first | exact ⟨rfl, rfl⟩ | (simp; exact ⟨rfl, rfl⟩)
        intro bs caps ws hr2 hk2 hbb2
        have hr3 := RowAt.snocE (W := []) hr2
        have hk3 : Keeps [] w ws := (HS0.out.2.alloc _).trans hk2 (fun x hx => .inr (by simp [Value.ownBlock] at hx; omega))
        have hb3 : w.heap.size ≤ bs := by
          rcases hbb2 with h | h
          · simp [Value.ownBlock] at h; omega
          · (try simp at h); omega
        have HS : Hid (RowAt ws bs 36 2 [(eK M p, eV M p)].length caps (ecell (eK [(eK M p, eV M p)]) (eV [(eK M p, eV M p)])) ∧ w.heap.size ≤ bs ∧ Keeps [] w ws) := ⟨hr3, hb3, hk3⟩
        clear hr2 hk2 hbb2 hr3 hk3 e0 e1 HS0
        go_wp2
        go_loopw [10, 11] (fun v j wr => ∃ k bk ck : Nat, ∃ Wk : List (Int × Int), k ≤ M.length ∧ j = .int .i64 k ∧ v = .slice (some ⟨bk, 0, none⟩) Wk.length ck ∧ Wk = [(eK M p, eV M p)] ++ skp (p : Int) M k ∧ RowAt wr bk 36 2 Wk.length ck (ecell (eK Wk) (eV Wk)) ∧ w.heap.size ≤ bk ∧ Keeps [] w wr) (fun _ j _ => M.length - (intOf j).toNat)
        case atStart => exact ⟨0, _, _, [(eK M p, eV M p)], by omega, rfl, rfl, by simp [skp], HS.out.1, HS.out.2.1, HS.out.2.2⟩
        case round =>
          obtain ⟨k, bk, ck, Wk, hk, rfl, rfl, hWk, hR, hbk, hK⟩ := hrel
          have hkz := hK.size
          have hWl : Wk.length ≤ k + 1 := by
            have := skp_le (p : Int) M k
            rw [hWk, List.length_append]; simp; omega
          by_cases hlt : k < M.length
          · have hlt' : (k : Int) < (M.length : Int) := by omega
            obtain ⟨e0, e1⟩ := (HR.out.keeps hK (by simp)).ents k hlt
            have hbl : b < wr.heap.size := by omega
            have HI : Hid (Wk = [(eK M p, eV M p)] ++ skp (p : Int) M k ∧ RowAt wr bk 36 2 Wk.length ck (ecell (eK Wk) (eV Wk)) ∧ Keeps [] w wr) := ⟨hWk, hR, hK⟩
            clear hWk hR hK
            by_cases heq : (k : Int) = (p : Int)
            · have HQ : Hid ((k : Int) = (p : Int)) := heq
              have hbb : ((k : Int) != (p : Int)) = false := by rw [bne_eq_false_iff_eq]; exact heq
              clear heq
              go_wp2
              go_roundw
              case rel => exact ⟨k + 1, bk, ck, Wk, by omega, by go_num, rfl, by rw [skp_no HQ.out]; exact HI.out.1, HI.out.2.1, hbk, HI.out.2.2⟩
              case measure => simp [intOf]; omega
            · have HQ : Hid (¬ (k : Int) = (p : Int)) := heq
              have hbb : ((k : Int) != (p : Int)) = true := by rw [bne_iff_ne]; exact heq
              clear heq
              go_wp2_with (at_builtin; refine wp_append1 _ rfl (.tmp 56) (.tmp 61) 49 rfl 36 i0 _ 2 16 Ydvm.underlying49 hi0 hz0 hz1 hz2 rfl (by omega) (.slice (some ⟨bk, 0, none⟩) Wk.length ck) Wk.length (ecell (eK Wk) (eV Wk)) rfl ?hS wr.heap.size rfl #[.int .i64 (eK M k), .int .i64 (eV M k)] 36 ?hB rfl ?h1 (by omega) (by omega) ?_)
              case hS => exact (HI.out.2.1.alloc _).sliceAt
              case hB => first | exact heap_alloc_new _ _ | exact (Array.getElem?_eq_some_iff.1 (heap_alloc_new _ _)).2
              case h1 => first | exact ⟨rfl, rfl⟩ | (simp; exact ⟨rfl, rfl⟩)
              intro b' cap' w5 hr2 hk2 hbb2
              have hr3 := hr2.snocE
              have hk3 : Keeps [] w w5 := (HI.out.2.2.alloc _).trans hk2 (fun x hx => .inr (by simp [Value.ownBlock] at hx; omega))
              have hb3 : w.heap.size ≤ b' := by
                rcases hbb2 with h | h
                · simp [Value.ownBlock] at h; omega
                · (try simp at h); omega
              have HN : Hid (RowAt w5 b' 36 2 (Wk ++ [(eK M k, eV M k)]).length cap' (ecell (eK (Wk ++ [(eK M k, eV M k)])) (eV (Wk ++ [(eK M k, eV M k)]))) ∧ Keeps [] w w5) := ⟨hr3, hk3⟩
              clear hr2 hk2 hbb2 hr3 hk3 e0 e1
              go_wp2
              go_roundw
              case rel => exact ⟨k + 1, b', cap', Wk ++ [(eK M k, eV M k)], by omega, by go_num, by simp, by rw [skp_yes HQ.out, ← List.append_assoc, ← HI.out.1], HN.out.1, hb3, HN.out.2⟩
              case measure => simp [intOf]; omega
          · have hlt' : ¬ (k : Int) < (M.length : Int) := by omega
            obtain rfl : k = M.length := by omega
            obtain rfl : Wk = mget M key := by rw [hWk]; rw [skp_some M p _ (Nat.le_refl _), List.take_length]; unfold mget; rw [HX.out]; rfl
            clear hWk
            go_wp2
            exact bodyPost_ret (v := .tuple #[.slice (some ⟨bk, 0, none⟩) (mget M key).length ck, .int .i64 (eV M p), .bool true]) (by simp [results, Ydvm.results34, go_sem]) rfl ⟨bk, ck, by unfold mpeek; rw [HX.out]; rfl, hR, hbk, hK⟩
end Go.Proofs.Ymbrdv
