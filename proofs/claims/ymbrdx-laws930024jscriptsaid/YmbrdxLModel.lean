/- The plain list model of the laws L. -/
import Derived.Test.YmbrdxLStep
namespace Go.Proofs.Ymbrdx
open Go.RowKit

theorem idx_at {M : List (Int × Int)} {key : Int} {k : Nat} (hk : k < M.length) (h : eK M k = key) (hno : ∀ j, j < k → eK M j ≠ key) : idx key M = some k ∧ mpeek M key = eV M k := by
  have e : M = M.take k ++ (eK M k, eV M k) :: M.drop (k + 1) := by
    rw [eKV_get hk, List.getElem_cons_drop]; simp
  have hl : (M.take k).length = k := by rw [List.length_take]; omega
  have hi : idx key M = some k := by
    rw [e]
    have : ∀ (X Y : List (Int × Int)) (p : Int × Int), (∀ x ∈ X, x.1 ≠ key) → p.1 = key → idx key (X ++ p :: Y) = some X.length := by
      intro X
      induction X with
      | nil => intro Y p _ hp; simp [idx, hp]
      | cons x t ih =>
        intro Y p hx hp
        show (if x.1 = key then some 0 else (idx key (t ++ p :: Y)).map (· + 1)) = _
        rw [if_neg (hx x (by simp)), ih Y p (fun y hy => hx y (by simp [hy])) hp]
        simp
    have h2 := this (M.take k) (M.drop (k + 1)) (eK M k, eV M k) (fun x hx => ?_) h
    · rw [h2, hl]
    clear e
    obtain ⟨j, hj, rfl⟩ := List.getElem_of_mem hx
    rw [hl] at hj
    rw [List.getElem_take, ← eKV_get (show j < M.length by omega)]
    exact hno j hj
  refine ⟨hi, ?_⟩
  unfold mpeek
  rw [hi]
  rfl
theorem idx_no {M : List (Int × Int)} {key : Int} (hno : ∀ j, j < M.length → eK M j ≠ key) : idx key M = none ∧ mpeek M key = 0 := by
  have : idx key M = none := idx_none_iff.2 fun x hx => by
    obtain ⟨j, hj, rfl⟩ := List.getElem_of_mem hx
    rw [← eKV_get hj]; exact hno j hj
  exact ⟨this, by unfold mpeek; rw [this]⟩

set_option maxHeartbeats 2000000 in
theorem llook_at (w : World) (b off : Nat) (a : Option Addr) (mc : Nat) (M : List (Int × Int)) (key : Int) (hE : InRow w b off a M.length 2 (ecell (eK M) (eV M))) (hl : M.length ≤ 100000) :
    Calls Ydxm.prog 34 #[.slice a M.length mc, .int .i64 key] w fun e w' => e = .returned (.tuple #[.int .i64 (mpeek M key), .bool (idx key M).isSome]) ∧ w' = w := by
  have hl' : (M.length : Int) ≤ 100000 := by omega
  have HE : Hid (InRow w b off a M.length 2 (ecell (eK M) (eV M))) := hE
  clear hE
  go_enter Ydxm.func34, Ydxm.ntmps34
  go_wp2
  go_loop [6] (fun i => ∃ k : Nat, k ≤ M.length ∧ i = .int .i64 k ∧ ∀ j, j < k → eK M j ≠ key) (fun i => M.length - (intOf i).toNat)
  case atStart => exact ⟨0, by omega, rfl, fun j h => absurd h (by omega)⟩
  case round =>
    obtain ⟨k, hk, rfl, hno⟩ := hrel
    by_cases hlt : k < M.length
    · have hlt' : (k : Int) < (M.length : Int) := by omega
      obtain ⟨e0, e1⟩ := HE.out.ents k hlt
      obtain rfl := HE.out.addr (by omega)
      have HN : Hid (∀ j, j < k → eK M j ≠ key) := hno
      clear hno
      by_cases heq : eK M k = key
      · have HQ : Hid (idx key M = some k ∧ mpeek M key = eV M k) := idx_at hlt heq HN.out
        rw [heq] at e0
        clear heq
        go_wp2
        go_ret2
        exact ⟨by rw [HQ.out.1, HQ.out.2]; rfl, rfl⟩
      · have HQ : Hid (¬ eK M k = key) := heq
        have hbb : (eK M k == key) = false := beq_eq_false_iff_ne.2 heq
        clear heq
        go_wp2
        go_round
        case rel =>
          refine ⟨k + 1, by omega, by go_num, fun j hj => ?_⟩
          by_cases e : j = k
          · rw [e]; exact HQ.out
          · exact HN.out j (by omega)
        case measure => simp [intOf]; omega
    · have hlt' : ¬ (k : Int) < (M.length : Int) := by omega
      obtain rfl : k = M.length := by omega
      have HQ : Hid (idx key M = none ∧ mpeek M key = 0) := idx_no hno
      clear hno
      go_wp2
      go_ret2
      exact ⟨by rw [HQ.out.1, HQ.out.2]; rfl, rfl⟩

/-- what lwithout answers, of lists -/
def woutOf (lead : Bool) (x y key : Int) (M : List (Int × Int)) : List (Int × Int) := (if lead then [(x, y)] else []) ++ wo key M
/-- a fresh list of entries -/
def ListPost (W : List (Int × Int)) (w : World) (e : Ending) (w' : World) : Prop :=
  ∃ b' cap', e = .returned (.slice (some ⟨b', 0, none⟩) W.length cap') ∧ RowAt w' b' 26 2 W.length cap' (ecell (eK W) (eV W)) ∧ w.heap.size ≤ b' ∧ Keeps [] w w'

set_option maxRecDepth 100000 in
set_option maxHeartbeats 4000000 in
theorem lwithout_at (w : World) (b off : Nat) (a : Option Addr) (mc : Nat) (M : List (Int × Int)) (key : Int) (lead : Bool) (x y : Int) (hE : InRow w b off a M.length 2 (ecell (eK M) (eV M))) (hl : M.length ≤ 100000) :
    Calls Ydxm.prog 42 #[.slice a M.length mc, .int .i64 key, .bool lead, .agg #[.int .i64 x, .int .i64 y]] w (ListPost (woutOf lead x y key M) w) := by
  have hl' : (M.length : Int) ≤ 100000 := by omega
  have HE : Hid (InRow w b off a M.length 2 (ecell (eK M) (eV M))) := hE
  have hmk := make_entries0 (M.length + 1) (by omega)
  rw [show ((M.length + 1 : Nat) : Int) = (M.length : Int) + 1 by omega] at hmk
  obtain ⟨i0, hi0, hz0, hz1, hz2⟩ := info_parts infoEntry
  clear hE
  have HR0 : Hid (RowAt ((w.alloc (.cells #[.int .i64 x, .int .i64 y] 26)).alloc (.cells (madeCells #[.int .i64 0, .int .i64 0] ((M.length + 1) * 2)) 26)) (w.heap.size + 1) 26 2 ([] : List (Int × Int)).length (M.length + 1) (ecell (eK []) (eV [])) ∧ w.heap.size ≤ w.heap.size + 1 ∧ Keeps [] w ((w.alloc (.cells #[.int .i64 x, .int .i64 y] 26)).alloc (.cells (madeCells #[.int .i64 0, .int .i64 0] ((M.length + 1) * 2)) 26))) := by
    refine ⟨?_, by omega, ((Keeps.refl _ _).alloc _).alloc _⟩
    have := RowAt.made0 (f := ecell (eK []) (eV [])) (w.alloc (.cells #[.int .i64 x, .int .i64 y] 26)) 26 2 (M.length + 1) #[.int .i64 0, .int .i64 0] (by unfold maxLen; omega)
    rw [World.size_alloc] at this
    exact this
  cases lead with
  | false =>
    have HS := HR0
    go_enter Ydxm.func42, Ydxm.ntmps42
    go_wp2
    go_loopw [9, 10] (fun v j wr => ∃ k bk ck : Nat, ∃ Wk : List (Int × Int), k ≤ M.length ∧ j = .int .i64 k ∧ v = .slice (some ⟨bk, 0, none⟩) Wk.length ck ∧ Wk = ([] : List (Int × Int)) ++ wo key (M.take k) ∧ RowAt wr bk 26 2 Wk.length ck (ecell (eK Wk) (eV Wk)) ∧ w.heap.size ≤ bk ∧ Keeps [] w wr) (fun _ j _ => M.length - (intOf j).toNat)
    case atStart => exact ⟨0, _, _, ([] : List (Int × Int)), by omega, rfl, rfl, by simp [wo], HS.out.1, HS.out.2.1, HS.out.2.2⟩
    case round =>
      obtain ⟨k, bk, ck, Wk, hk, rfl, rfl, hWk, hR, hbk, hK⟩ := hrel
      have hkz := hK.size
      have hWl : Wk.length ≤ k + 1 := by
        have := List.length_filter_le (fun e : Int × Int => decide (e.1 ≠ key)) (M.take k)
        rw [List.length_take] at this
        rw [hWk, List.length_append]; unfold wo; simp only [List.length_nil]; omega
      by_cases hlt : k < M.length
      · have hlt' : (k : Int) < (M.length : Int) := by omega
        have E1 := HE.out.keeps hK (by simp)
        obtain ⟨e0, e1⟩ := E1.ents k hlt
        obtain rfl := E1.addr (by omega)
        have hbl := E1.lt (by omega)
        have HI : Hid (Wk = ([] : List (Int × Int)) ++ wo key (M.take k) ∧ RowAt wr bk 26 2 Wk.length ck (ecell (eK Wk) (eV Wk)) ∧ Keeps [] w wr) := ⟨hWk, hR, hK⟩
        clear hWk hR hK E1
        by_cases heq : eK M k = key
        · have HQ : Hid (eK M k = key) := heq
          rw [heq] at e0
          clear heq
          go_wp2
          go_roundw
          case rel => exact ⟨k + 1, bk, ck, Wk, by omega, by go_num, rfl, by rw [wo_take_no hlt HQ.out]; exact HI.out.1, HI.out.2.1, hbk, HI.out.2.2⟩
          case measure => simp [intOf]; omega
        · have HQ : Hid (¬ eK M k = key) := heq
          have hbb : (eK M k != key) = true := by rw [bne_iff_ne]; exact heq
          clear heq
          go_wp2_with (at_builtin; refine wp_append1 _ rfl (.tmp 33) (.tmp 38) 29 rfl 26 i0 _ 2 16 Ydxm.underlying29 hi0 hz0 hz1 hz2 rfl (by omega) (.slice (some ⟨bk, 0, none⟩) Wk.length ck) Wk.length (ecell (eK Wk) (eV Wk)) rfl ?hS wr.heap.size rfl #[.int .i64 (eK M k), .int .i64 (eV M k)] 26 ?hB rfl ?h1 (by omega) (by omega) ?_)
          case hS => exact (HI.out.2.1.alloc _).sliceAt
          case hB => first | exact heap_alloc_new _ _ | exact (Array.getElem?_eq_some_iff.1 (heap_alloc_new _ _)).2
          case h1 => first | exact ⟨rfl, rfl⟩ | (simp; exact ⟨rfl, rfl⟩)
          intro b' cap' w5 hr2 hk2 hbb2
          have hr3 := hr2.snocE
          have hk3 : Keeps [] w w5 := (HI.out.2.2.alloc _).trans hk2 (fun x hx => .inr (by simp [Value.ownBlock] at hx; omega))
          have hb3 : w.heap.size ≤ b' := by
            rcases hbb2 with h | h
            · simp [Value.ownBlock] at h; omega
            · (try simp at h); omega
          have HN : Hid (RowAt w5 b' 26 2 (Wk ++ [(eK M k, eV M k)]).length cap' (ecell (eK (Wk ++ [(eK M k, eV M k)])) (eV (Wk ++ [(eK M k, eV M k)]))) ∧ Keeps [] w w5) := ⟨hr3, hk3⟩
          clear hr2 hk2 hbb2 hr3 hk3 e0 e1
          go_wp2
          go_roundw
          case rel => exact ⟨k + 1, b', cap', Wk ++ [(eK M k, eV M k)], by omega, by go_num, by simp, by rw [wo_take_yes hlt HQ.out, ← List.append_assoc, ← HI.out.1], HN.out.1, hb3, HN.out.2⟩
          case measure => simp [intOf]; omega
      · have hlt' : ¬ (k : Int) < (M.length : Int) := by omega
        obtain rfl : k = M.length := by omega
        rw [List.take_length] at hWk
        have HWk : Hid (Wk = ([] : List (Int × Int)) ++ wo key M) := hWk
        clear hWk
        go_wp2
        go_ret
        refine ⟨bk, ck, ?_, ?_, hbk, hK⟩
        · rw [← show Wk = woutOf false x y key M from HWk.out]; rfl
        · rw [← show Wk = woutOf false x y key M from HWk.out]; exact hR
  | true =>
    go_enter Ydxm.func42, Ydxm.ntmps42
    go_wp2_with (at_builtin; refine wp_append1 _ rfl (.tmp 16) (.tmp 18) 29 rfl 26 i0 _ 2 16 Ydxm.underlying29 hi0 hz0 hz1 hz2 rfl (by omega) (.slice (some ⟨w.heap.size + 1, 0, none⟩) 0 (M.length + 1)) 0 (ecell (eK []) (eV [])) rfl ?hS (w.heap.size + 2) rfl #[.int .i64 x, .int .i64 y] 26 ?hB rfl ?h1 (by omega) (by omega) ?_)
    case hS => exact (HR0.out.1.alloc _).sliceAt
    case hB =>
      have := heap_alloc_new ((w.alloc (.cells #[.int .i64 x, .int .i64 y] 26)).alloc (.cells (madeCells #[.int .i64 0, .int .i64 0] ((M.length + 1) * 2)) 26)) (.cells #[.int .i64 x, .int .i64 y] 26)
      rw [World.size_alloc, World.size_alloc] at this
      first | exact this | exact (Array.getElem?_eq_some_iff.1 this).2
    case h1 => first | exact ⟨rfl, rfl⟩ | (simp; exact ⟨rfl, rfl⟩)
    intro bs caps ws hr2 hk2 hbb2
    have hr3 := RowAt.snocE (W := []) hr2
    have hk3 : Keeps [] w ws := (HR0.out.2.2.alloc _).trans hk2 (fun x hx => .inr (by simp [Value.ownBlock] at hx; omega))
    have hb3 : w.heap.size ≤ bs := by
      rcases hbb2 with h | h
      · simp [Value.ownBlock] at h; omega
      · (try simp at h); omega
    have HS : Hid (RowAt ws bs 26 2 [(x, y)].length caps (ecell (eK [(x, y)]) (eV [(x, y)])) ∧ w.heap.size ≤ bs ∧ Keeps [] w ws) := ⟨hr3, hb3, hk3⟩
    clear hr2 hk2 hbb2 hr3 hk3
    go_wp2
    go_loopw [9, 10] (fun v j wr => ∃ k bk ck : Nat, ∃ Wk : List (Int × Int), k ≤ M.length ∧ j = .int .i64 k ∧ v = .slice (some ⟨bk, 0, none⟩) Wk.length ck ∧ Wk = [(x, y)] ++ wo key (M.take k) ∧ RowAt wr bk 26 2 Wk.length ck (ecell (eK Wk) (eV Wk)) ∧ w.heap.size ≤ bk ∧ Keeps [] w wr) (fun _ j _ => M.length - (intOf j).toNat)
    case atStart => exact ⟨0, _, _, [(x, y)], by omega, rfl, rfl, by simp [wo], HS.out.1, HS.out.2.1, HS.out.2.2⟩
    case round =>
      obtain ⟨k, bk, ck, Wk, hk, rfl, rfl, hWk, hR, hbk, hK⟩ := hrel
      have hkz := hK.size
      have hWl : Wk.length ≤ k + 1 := by
        have := List.length_filter_le (fun e : Int × Int => decide (e.1 ≠ key)) (M.take k)
        rw [List.length_take] at this
        rw [hWk, List.length_append]; unfold wo; simp only [List.length_nil, List.length_cons]; omega
      by_cases hlt : k < M.length
      · have hlt' : (k : Int) < (M.length : Int) := by omega
        have E1 := HE.out.keeps hK (by simp)
        obtain ⟨e0, e1⟩ := E1.ents k hlt
        obtain rfl := E1.addr (by omega)
        have hbl := E1.lt (by omega)
        have HI : Hid (Wk = [(x, y)] ++ wo key (M.take k) ∧ RowAt wr bk 26 2 Wk.length ck (ecell (eK Wk) (eV Wk)) ∧ Keeps [] w wr) := ⟨hWk, hR, hK⟩
        clear hWk hR hK E1
        by_cases heq : eK M k = key
        · have HQ : Hid (eK M k = key) := heq
          rw [heq] at e0
          clear heq
          go_wp2
          go_roundw
          case rel => exact ⟨k + 1, bk, ck, Wk, by omega, by go_num, rfl, by rw [wo_take_no hlt HQ.out]; exact HI.out.1, HI.out.2.1, hbk, HI.out.2.2⟩
          case measure => simp [intOf]; omega
        · have HQ : Hid (¬ eK M k = key) := heq
          have hbb : (eK M k != key) = true := by rw [bne_iff_ne]; exact heq
          clear heq
          go_wp2_with (at_builtin; refine wp_append1 _ rfl (.tmp 33) (.tmp 38) 29 rfl 26 i0 _ 2 16 Ydxm.underlying29 hi0 hz0 hz1 hz2 rfl (by omega) (.slice (some ⟨bk, 0, none⟩) Wk.length ck) Wk.length (ecell (eK Wk) (eV Wk)) rfl ?hS wr.heap.size rfl #[.int .i64 (eK M k), .int .i64 (eV M k)] 26 ?hB rfl ?h1 (by omega) (by omega) ?_)
          case hS => exact (HI.out.2.1.alloc _).sliceAt
          case hB => first | exact heap_alloc_new _ _ | exact (Array.getElem?_eq_some_iff.1 (heap_alloc_new _ _)).2
          case h1 => first | exact ⟨rfl, rfl⟩ | (simp; exact ⟨rfl, rfl⟩)
          intro b' cap' w5 hr2 hk2 hbb2
          have hr3 := hr2.snocE
          have hk3 : Keeps [] w w5 := (HI.out.2.2.alloc _).trans hk2 (fun x hx => .inr (by simp [Value.ownBlock] at hx; omega))
          have hb3 : w.heap.size ≤ b' := by
            rcases hbb2 with h | h
            · simp [Value.ownBlock] at h; omega
            · (try simp at h); omega
          have HN : Hid (RowAt w5 b' 26 2 (Wk ++ [(eK M k, eV M k)]).length cap' (ecell (eK (Wk ++ [(eK M k, eV M k)])) (eV (Wk ++ [(eK M k, eV M k)]))) ∧ Keeps [] w w5) := ⟨hr3, hk3⟩
          clear hr2 hk2 hbb2 hr3 hk3 e0 e1
          go_wp2
          go_roundw
          case rel => exact ⟨k + 1, b', cap', Wk ++ [(eK M k, eV M k)], by omega, by go_num, by simp, by rw [wo_take_yes hlt HQ.out, ← List.append_assoc, ← HI.out.1], HN.out.1, hb3, HN.out.2⟩
          case measure => simp [intOf]; omega
      · have hlt' : ¬ (k : Int) < (M.length : Int) := by omega
        obtain rfl : k = M.length := by omega
        rw [List.take_length] at hWk
        have HWk : Hid (Wk = [(x, y)] ++ wo key M) := hWk
        clear hWk
        go_wp2
        go_ret
        refine ⟨bk, ck, ?_, ?_, hbk, hK⟩
        · rw [← show Wk = woutOf true x y key M from HWk.out]; rfl
        · rw [← show Wk = woutOf true x y key M from HWk.out]; exact hR

/-- one step on a plain list, as lmodel plays it -/
def lm (cap : Int) (M : List (Int × Int)) (o ky vl : Int) : List (Int × Int) :=
  if o % 8 = 0 then wo ky M else if o % 8 = 1 then M.dropLast else if o % 8 = 2 then (if idx ky M = none then M else (ky, mpeek M ky) :: wo ky M)
  else if cap ≤ 0 then M else ((ky, vl) :: wo ky M).take cap.toNat
theorem lm_sstep {cap : Int} {M : List (Int × Int)} (hn : (M.map Prod.fst).Nodup) (hl : (M.length : Int) ≤ max cap 0) (o ky vl : Int) : lm cap M o ky vl = sstep 8 2 0 1 (max cap 0) M o ky vl := by
  unfold lm sstep
  by_cases h0 : o % 8 = 0
  · rw [if_pos h0, if_neg (by omega), if_pos h0, mremove_wo hn]
  · rw [if_neg h0]
    by_cases h1 : o % 8 = 1
    · rw [if_pos h1, if_neg (by omega), if_neg h0, if_pos h1]
    · rw [if_neg h1]
      by_cases h2 : o % 8 = 2
      · rw [if_pos h2, if_pos h2, mget_wo hn]
      · rw [if_neg h2, if_neg h2, if_neg h0, if_neg h1]
        by_cases hc : cap ≤ 0
        · rw [if_pos hc, show max cap 0 = 0 by omega]; unfold mput; rw [if_pos rfl]
        · rw [if_neg hc, mput_wo hn _ (by omega) hl, show (max cap 0).toNat = cap.toNat by omega]
theorem eKV_take {M : List (Int × Int)} {c j : Nat} (hj : j < c) : eK (M.take c) j = eK M j ∧ eV (M.take c) j = eV M j := by
  unfold eK eV
  rw [List.getD_eq_getElem?_getD, List.getD_eq_getElem?_getD, List.getElem?_take, if_pos hj]
  exact ⟨rfl, rfl⟩
theorem RowAt.takeE {w : World} {b t cap c : Nat} {M : List (Int × Int)} (h : RowAt w b t 2 M.length cap (ecell (eK M) (eV M))) (hc : c ≤ M.length) : RowAt w b t 2 (M.take c).length cap (ecell (eK (M.take c)) (eV (M.take c))) := by
  rw [show (M.take c).length = c by rw [List.length_take]; omega]
  exact (h.take hc).congr fun j hj => by unfold ecell; rw [(eKV_take (show j / 2 < c by omega)).1, (eKV_take (show j / 2 < c by omega)).2]

/-- what lmodel answers: a slice of a row of the call's own, or the one that came in -/
def LmPost (v : Value) (W : List (Int × Int)) (w : World) (e : Ending) (w' : World) : Prop :=
  ∃ a' cap', e = .returned (.slice a' W.length cap') ∧ SliceAt w' 26 2 (.slice a' W.length cap') W.length (ecell (eK W) (eV W)) ∧ (∀ b, (Value.slice a' W.length cap').ownBlock = some b → v.ownBlock = some b ∨ w.heap.size ≤ b) ∧ Keeps [] w w'

set_option maxRecDepth 100000 in
set_option maxHeartbeats 4000000 in
theorem lmodel_at (w : World) (a : Option Addr) (mc : Nat) (M : List (Int × Int)) (cap o ky vl : Int) (ho0 : 0 ≤ o) (ho1 : o ≤ 255) (hS : SliceAt w 26 2 (.slice a M.length mc) M.length (ecell (eK M) (eV M))) (hl : M.length ≤ 100000) :
    Calls Ydxm.prog 33 #[.slice a M.length mc, .int .i64 cap, .agg #[.int .u8 o, .int .i64 ky, .int .i64 vl]] w (LmPost (.slice a M.length mc) (lm cap M o ky vl) w) := by
  have hl' : (M.length : Int) ≤ 100000 := by omega
  obtain ⟨a2, c2, b, hv, hE, hown⟩ := hS.inRow
  obtain ⟨rfl, rfl⟩ : a = a2 ∧ mc = c2 := by simpa using hv
  clear hv
  have HE : Hid (SliceAt w 26 2 (.slice a M.length mc) M.length (ecell (eK M) (eV M)) ∧ InRow w b 0 a M.length 2 (ecell (eK M) (eV M))) := ⟨hS, hE⟩
  have hwol : (wo ky M).length ≤ M.length := List.length_filter_le _ _
  have EA := fun (o : Obj) => (hE.keeps (((Keeps.refl [] w)).alloc o) (by simp))
  clear hE hS
  obtain ⟨r, hr⟩ : ∃ r, r = o % 8 := ⟨_, rfl⟩
  have hr0 : 0 ≤ r := by omega
  have hr1 : r < 8 := by omega
  have hor : o % 8 = r := hr.symm
  by_cases h0 : r = 0
  · have HR : Hid (lm cap M o ky vl = woutOf false 0 0 ky M) := by unfold lm; rw [hor, if_pos h0]; rfl
    subst h0
    clear hr
    have CC := lwithout_at (w.alloc (.cells #[.int .u8 o, .int .i64 ky, .int .i64 vl] 68)) b 0 a mc M ky false 0 0 (EA _) hl
    clear EA
    go_enter Ydxm.func33, Ydxm.ntmps33
    go_wp2_with fail
    refine CC.mono ?_
    rintro e w2 ⟨b2, c2, rfl, R2, hb2, K2⟩
    clear CC
    go_wp2
    go_ret
    rw [HR.out]
    exact ⟨some ⟨b2, 0, none⟩, c2, rfl, R2.sliceAt, fun b3 h3 => .inr (by simp [Value.ownBlock] at h3; simp at hb2; omega), ((Keeps.refl _ _).alloc _).trans K2 (by simp)⟩
  · by_cases h1 : r = 1
    · have HR : Hid (lm cap M o ky vl = M.dropLast) := by unfold lm; rw [hor, if_neg h0, if_pos h1]; rfl
      subst h1
      clear hr
      clear EA
      by_cases hM : 0 < M.length
      · have hM' : (0 : Int) < (M.length : Int) := by omega
        rcases HE.out.1 with ⟨_, h⟩ | ⟨b1, c1, hv, R1⟩
        · exact absurd h (by omega)
        · obtain ⟨rfl, rfl⟩ : a = some ⟨b1, 0, none⟩ ∧ mc = c1 := by simpa using hv
          clear hv
          obtain ⟨m, hm⟩ : ∃ m, M.length = m + 1 := ⟨M.length - 1, by omega⟩
          have hcap : m + 1 ≤ mc := by have := R1.le; omega
          have hcap' : (m : Int) ≤ (mc : Int) := by omega
          have hcap2 : m ≤ mc := by omega
          have R2 := (R1.takeE (c := m) (by omega)).alloc (.cells #[.int .u8 o, .int .i64 ky, .int .i64 vl] 68)
          have hdl : M.dropLast = M.take m := by rw [List.dropLast_eq_take, hm]; rfl
          have hln : (M.take m).length = m := by rw [List.length_take]; omega
          have HX : Hid (M.dropLast = M.take m ∧ (M.take m).length = m ∧ M.length = m + 1) := ⟨hdl, hln, hm⟩
          have hmi : (M.length : Int) = (m : Int) + 1 := by omega
          rw [hm]
          clear hdl hln hm R1 HE
          go_enter Ydxm.func33, Ydxm.ntmps33
          go_wp2
          go_ret
          rw [HR.out, HX.out.1]
          refine ⟨some ⟨b1, 0, none⟩, mc, by rw [HX.out.2.1]; rfl, R2.sliceAt, fun b3 h3 => .inl (by simpa [Value.ownBlock] using h3), (Keeps.refl _ _).alloc _⟩
      · have hM' : ¬ (0 : Int) < (M.length : Int) := by omega
        have hnil : M = [] := List.eq_nil_of_length_eq_zero (by omega)
        have HX : Hid (M.dropLast = M) := by rw [hnil]; rfl
        clear hnil
        go_enter Ydxm.func33, Ydxm.ntmps33
        go_wp2
        go_ret
        rw [HR.out, HX.out]
        exact ⟨a, mc, rfl, HE.out.1.alloc _, fun b3 h3 => .inl h3, (Keeps.refl _ _).alloc _⟩
    · by_cases h2 : r = 2
      · have HR : Hid (lm cap M o ky vl = if idx ky M = none then M else woutOf true ky (mpeek M ky) ky M) := by unfold lm; rw [hor, if_neg h0, if_neg h1, if_pos h2]; rfl
        subst h2
        clear hr
        have LK := llook_at (w.alloc (.cells #[.int .u8 o, .int .i64 ky, .int .i64 vl] 68)) b 0 a mc M ky (EA _) hl
        have CC := lwithout_at (w.alloc (.cells #[.int .u8 o, .int .i64 ky, .int .i64 vl] 68)) b 0 a mc M ky true ky (mpeek M ky) (EA _) hl
        clear EA
        cases hx : idx ky M with
        | none =>
          have HX : Hid (idx ky M = none) := hx
          rw [hx] at LK
          simp only [Option.isSome_none] at LK
          clear hx
          go_enter Ydxm.func33, Ydxm.ntmps33
          go_wp2_with fail
          refine LK.mono ?_
          rintro e w2 ⟨rfl, rfl⟩
          clear LK CC
          go_wp2
          go_ret
          rw [HR.out, if_pos HX.out]
          exact ⟨a, mc, rfl, HE.out.1.alloc _, fun b3 h3 => .inl h3, (Keeps.refl _ _).alloc _⟩
        | some p =>
          have HX : Hid (idx ky M ≠ none) := by rw [hx]; exact Option.some_ne_none _
          rw [hx] at LK
          simp only [Option.isSome_some] at LK
          clear hx
          go_enter Ydxm.func33, Ydxm.ntmps33
          go_wp2_with fail
          refine LK.mono ?_
          rintro e w2 ⟨rfl, rfl⟩
          clear LK
          go_wp2_with fail
          refine CC.mono ?_
          rintro e w2 ⟨b2, c2, rfl, R2, hb2, K2⟩
          clear CC
          go_wp2
          go_ret
          rw [HR.out, if_neg HX.out]
          exact ⟨some ⟨b2, 0, none⟩, c2, rfl, R2.sliceAt, fun b3 h3 => .inr (by simp [Value.ownBlock] at h3; simp at hb2; omega), ((Keeps.refl _ _).alloc _).trans K2 (by simp)⟩
      · have b0 : (r == 0) = false := beq_eq_false_iff_ne.2 h0
        have b1 : (r == 1) = false := beq_eq_false_iff_ne.2 h1
        have b2 : (r == 2) = false := beq_eq_false_iff_ne.2 h2
        by_cases hc : cap ≤ 0
        · have HR : Hid (lm cap M o ky vl = M) := by unfold lm; rw [hor, if_neg h0, if_neg h1, if_neg h2, if_pos hc]; rfl
          clear hr h0 h1 h2 EA
          go_enter Ydxm.func33, Ydxm.ntmps33
          go_wp2
          go_ret
          rw [HR.out]
          exact ⟨a, mc, rfl, HE.out.1.alloc _, fun b3 h3 => .inl h3, (Keeps.refl _ _).alloc _⟩
        · have HR : Hid (lm cap M o ky vl = (woutOf true ky vl ky M).take cap.toNat) := by unfold lm; rw [hor, if_neg h0, if_neg h1, if_neg h2, if_neg hc]; rfl
          clear hr h0 h1 h2
          have CC := lwithout_at (w.alloc (.cells #[.int .u8 o, .int .i64 ky, .int .i64 vl] 68)) b 0 a mc M ky true ky vl (EA _) hl
          clear EA
          have hWl : (woutOf true ky vl ky M).length ≤ M.length + 1 := by unfold woutOf; simp; omega
          generalize woutOf true ky vl ky M = W at *
          have hWi : (W.length : Int) ≤ 100001 := by omega
          go_enter Ydxm.func33, Ydxm.ntmps33
          go_wp2_with fail
          refine CC.mono ?_
          rintro e w2 ⟨bq, cq, rfl, R2, hb2, K2⟩
          clear CC
          by_cases hov : cap < (W.length : Int)
          · obtain ⟨cn, hcn⟩ : ∃ cn : Nat, cap = cn := ⟨cap.toNat, by omega⟩
            have hcnl : cn ≤ W.length := by omega
            have hq : cn ≤ cq := by have := R2.le; omega
            have hq' : (cn : Int) ≤ (cq : Int) := by omega
            have hln : (W.take cn).length = cn := by rw [List.length_take]; omega
            have R3 := R2.takeE hcnl
            have HX : Hid ((W.take cn).length = cn ∧ cap.toNat = cn) := ⟨hln, by omega⟩
            subst hcn
            clear hln
            go_wp2
            go_ret
            rw [HR.out, HX.out.2]
            refine ⟨some ⟨bq, 0, none⟩, cq, by rw [HX.out.1]; rfl, R3.sliceAt, fun b3 h3 => .inr (by simp [Value.ownBlock] at h3; simp at hb2; omega), ((Keeps.refl _ _).alloc _).trans K2 (by simp)⟩
          · have HX : Hid (W.take cap.toNat = W) := List.take_of_length_le (by omega)
            go_wp2
            go_ret
            rw [HR.out, HX.out]
            exact ⟨some ⟨bq, 0, none⟩, cq, rfl, R2.sliceAt, fun b3 h3 => .inr (by simp [Value.ownBlock] at h3; simp at hb2; omega), ((Keeps.refl _ _).alloc _).trans K2 (by simp)⟩
end Go.Proofs.Ymbrdx
