/- The plain list model of the laws I. -/
import Derived.Test.YmbrdxLModel
namespace Go.Proofs.Ymbrdx
open Go.RowKit

theorem mget_length (M : List (Int × Int)) (k : Int) : (mget M k).length = M.length := by
  unfold mget
  cases h : idx k M with
  | none => rfl
  | some j =>
    have hj : j < M.length := by obtain ⟨e, h1, _, _⟩ := idx_some h; exact (List.getElem?_eq_some_iff.1 h1).1
    dsimp only
    rw [List.length_cons, List.length_eraseIdx_of_lt hj]; omega
theorem wo_sub (key : Int) (M : List (Int × Int)) : ((wo key M).map Prod.fst).Sublist (M.map Prod.fst) := (List.filter_sublist).map _
theorem cons_wo_nodup {M : List (Int × Int)} (hn : (M.map Prod.fst).Nodup) (k v : Int) : (((k, v) :: wo k M).map Prod.fst).Nodup := by
  rw [List.map_cons, List.nodup_cons]
  refine ⟨fun h => ?_, hn.sublist (wo_sub k M)⟩
  obtain ⟨e, he, h1⟩ := List.mem_map.1 h
  exact (mem_wo.1 he).2 h1
/-- what a script leaves has different keys and fits -/
theorem splay_ok {m g r e cap : Int} (hc : 0 ≤ cap) (z : Nat → Nat → Int) : ∀ n, ((splay m g r e cap z [] n).map Prod.fst).Nodup ∧ ((splay m g r e cap z [] n).length : Int) ≤ cap
  | 0 => by simp [splay, hc]
  | n + 1 => by
    obtain ⟨hn, hl⟩ := splay_ok (m := m) (g := g) (r := r) (e := e) hc z n
    show ((sstep m g r e cap (splay m g r e cap z [] n) (z n 0) (z n 1) (z n 2)).map Prod.fst).Nodup ∧ ((sstep m g r e cap (splay m g r e cap z [] n) (z n 0) (z n 1) (z n 2)).length : Int) ≤ cap
    generalize splay m g r e cap z [] n = M at *
    unfold sstep
    split
    · refine ⟨?_, by rw [mget_length]; exact hl⟩
      rw [mget_wo hn]
      split
      · exact hn
      · exact cons_wo_nodup hn _ _
    · split
      · rw [mremove_wo hn]
        refine ⟨hn.sublist (wo_sub _ _), ?_⟩
        have := List.length_filter_le (fun e : Int × Int => decide (e.1 ≠ z n 1)) M
        unfold wo; omega
      · split
        · refine ⟨hn.sublist ((List.dropLast_sublist M).map _), ?_⟩
          rw [List.length_dropLast]; omega
        · by_cases h0 : cap = 0
          · unfold mput; rw [if_pos h0]; exact ⟨hn, hl⟩
          · rw [mput_wo hn cap h0 hl]
            refine ⟨(cons_wo_nodup hn _ _).sublist ((List.take_sublist _ _).map _), ?_⟩
            rw [List.length_take]; omega

theorem take_snoc_lt {L : List (Int × Int)} {e : Int × Int} {c : Nat} (h : (L.take c).length < c) : (L ++ [e]).take c = L.take c ++ [e] := by
  rw [List.length_take] at h
  rw [List.take_append, List.take_of_length_le (l := [e]) (by simp; omega)]
theorem take_snoc_ge {L : List (Int × Int)} {e : Int × Int} {c : Nat} (h : ¬ (L.take c).length < c) : (L ++ [e]).take c = L.take c := by
  rw [List.length_take] at h
  rw [List.take_append_of_le_length (by omega)]

set_option maxRecDepth 100000 in
set_option maxHeartbeats 4000000 in
theorem ifront_at (w : World) (b off : Nat) (a : Option Addr) (mc : Nat) (M : List (Int × Int)) (x y cap : Int) (hc : 1 ≤ cap) (hE : InRow w b off a M.length 2 (ecell (eK M) (eV M))) (hl : M.length ≤ 100000) :
    Calls Ydxm.prog 37 #[.slice a M.length mc, .agg #[.int .i64 x, .int .i64 y], .int .i64 cap] w (ListPost (((x, y) :: wo x M).take cap.toNat) w) := by
  have hl' : (M.length : Int) ≤ 100000 := by omega
  have HE : Hid (InRow w b off a M.length 2 (ecell (eK M) (eV M))) := hE
  obtain ⟨i0, hi0, hz0, hz1, hz2⟩ := info_parts infoEntry
  clear hE
  go_enter Ydxm.func37, Ydxm.ntmps37
  go_wp2
  go_loopw [7, 14] (fun v j wr => ∃ k bk ck : Nat, ∃ Wk : List (Int × Int), k ≤ M.length ∧ j = .int .i64 k ∧ v = .slice (some ⟨bk, 0, none⟩) Wk.length ck ∧ Wk = ((x, y) :: wo x (M.take k)).take cap.toNat ∧ RowAt wr bk 26 2 Wk.length ck (ecell (eK Wk) (eV Wk)) ∧ w.heap.size ≤ bk ∧ w.heap.size < wr.heap.size ∧ wr.cell? ⟨w.heap.size, 0, none⟩ = some (.int .i64 x) ∧ bk ≠ w.heap.size ∧ Keeps [] w wr) (fun _ j _ => M.length - (intOf j).toNat)
  case atStart =>
    refine ⟨0, w.heap.size + 1, 1, [(x, y)], by omega, rfl, rfl, ?_, ⟨⟨_, (by have := heap_alloc_new (w.alloc (.cells #[.int .i64 x, .int .i64 y] 26)) (.cells #[.int .i64 x, .int .i64 y] 26); rw [World.size_alloc] at this; exact this), rfl, fun j hj => ?_⟩, by simp, by unfold maxLen; omega⟩, by omega, by simp; omega, ?_, by omega, ((Keeps.refl _ _).alloc _).alloc _⟩
    · rw [List.take_of_length_le (by simp [wo]; omega)]; simp [wo]
    · match j, hj with
      | 0, _ => rfl
      | 1, _ => rfl
    · simp
  case round =>
    obtain ⟨k, bk, ck, Wk, hk, rfl, rfl, hWk, hR, hbk, hws, hx0, hbx, hK⟩ := hrel
    have hkz := hK.size
    have hWl : Wk.length ≤ k + 1 := by
      have := List.length_filter_le (fun e : Int × Int => decide (e.1 ≠ x)) (M.take k)
      rw [List.length_take] at this
      rw [hWk, List.length_take, List.length_cons]; unfold wo; omega
    by_cases hlt : k < M.length
    · have hlt' : (k : Int) < (M.length : Int) := by omega
      have E1 := HE.out.keeps hK (by simp)
      obtain ⟨e0, e1⟩ := E1.ents k hlt
      obtain rfl := E1.addr (by omega)
      have hbl := E1.lt (by omega)
      have HI : Hid (Wk = ((x, y) :: wo x (M.take k)).take cap.toNat ∧ RowAt wr bk 26 2 Wk.length ck (ecell (eK Wk) (eV Wk)) ∧ wr.cell? ⟨w.heap.size, 0, none⟩ = some (.int .i64 x) ∧ Keeps [] w wr) := ⟨hWk, hR, hx0, hK⟩
      have hx1 : (wr.alloc (.cells #[.int .i64 (eK M k), .int .i64 (eV M k)] 26)).cell? ⟨w.heap.size, 0, none⟩ = some (.int .i64 x) := ((Keeps.refl [] wr).alloc _).cell hx0 (by simp)
      clear hWk hR hK E1
      by_cases heq : eK M k = x
      · have HQ : Hid (eK M k = x) := heq
        rw [heq] at e0 hx1
        clear heq
        go_wp2
        go_roundw
        case rel => exact ⟨k + 1, bk, ck, Wk, by omega, by go_num, rfl, by rw [wo_take_no hlt HQ.out]; exact HI.out.1, HI.out.2.1.alloc _, hbk, by simp; omega, hx1, hbx, HI.out.2.2.2.alloc _⟩
        case measure => simp [intOf]; omega
      · have HQ : Hid (¬ eK M k = x) := heq
        have hbb : (eK M k != x) = true := by rw [bne_iff_ne]; exact heq
        clear heq
        by_cases hsp : (Wk.length : Int) < cap
        · go_wp2_with (at_builtin; refine wp_append1 _ rfl (.tmp 29) (.tmp 31) 29 rfl 26 i0 _ 2 16 Ydxm.underlying29 hi0 hz0 hz1 hz2 rfl (by omega) (.slice (some ⟨bk, 0, none⟩) Wk.length ck) Wk.length (ecell (eK Wk) (eV Wk)) rfl ?hS (wr.heap.size + 1) rfl #[.int .i64 (eK M k), .int .i64 (eV M k)] 26 ?hB rfl ?h1 (by omega) (by omega) ?_)
          case hS => exact ((HI.out.2.1.alloc _).alloc _).sliceAt
          case hB =>
            have := heap_alloc_new (wr.alloc (.cells #[.int .i64 (eK M k), .int .i64 (eV M k)] 26)) (.cells #[.int .i64 (eK M k), .int .i64 (eV M k)] 26)
            rw [World.size_alloc] at this
            first | exact this | exact (Array.getElem?_eq_some_iff.1 this).2
          case h1 => first | exact ⟨rfl, rfl⟩ | (simp; exact ⟨rfl, rfl⟩)
          intro b' cap' w5 hr2 hk2 hbb2
          have hr3 := hr2.snocE
          have hk3 : Keeps [] w w5 := ((HI.out.2.2.2.alloc _).alloc _).trans hk2 (fun x hx => .inr (by simp [Value.ownBlock] at hx; omega))
          have hx5 : w5.cell? ⟨w.heap.size, 0, none⟩ = some (.int .i64 x) := hk2.cell (((Keeps.refl [] _).alloc _).cell hx1 (by simp)) (by simp [Value.ownBlock]; omega)
          have s5 := hk2.size
          have hb3 : w.heap.size ≤ b' ∧ b' ≠ w.heap.size := by
            rcases hbb2 with h | h
            · simp [Value.ownBlock] at h; omega
            · (try simp at h); omega
          have HN : Hid (RowAt w5 b' 26 2 (Wk ++ [(eK M k, eV M k)]).length cap' (ecell (eK (Wk ++ [(eK M k, eV M k)])) (eV (Wk ++ [(eK M k, eV M k)]))) ∧ Keeps [] w w5 ∧ w5.cell? ⟨w.heap.size, 0, none⟩ = some (.int .i64 x) ∧ w.heap.size < w5.heap.size) := ⟨hr3, hk3, hx5, by simp at s5; omega⟩
          clear hr2 hk2 hbb2 hr3 hk3 e0 e1 hx5
          go_wp2
          go_roundw
          case rel =>
            refine ⟨k + 1, b', cap', Wk ++ [(eK M k, eV M k)], by omega, by go_num, by simp, ?_, HN.out.1, hb3.1, HN.out.2.2.2, HN.out.2.2.1, hb3.2, HN.out.2.1⟩
            rw [wo_take_yes hlt HQ.out, ← List.cons_append, take_snoc_lt (by rw [← HI.out.1]; omega), ← HI.out.1]
          case measure => simp [intOf]; omega
        · go_wp2
          go_roundw
          case rel =>
            refine ⟨k + 1, bk, ck, Wk, by omega, by go_num, rfl, ?_, HI.out.2.1.alloc _, hbk, by simp; omega, hx1, hbx, HI.out.2.2.2.alloc _⟩
            rw [wo_take_yes hlt HQ.out, ← List.cons_append, take_snoc_ge (by rw [← HI.out.1]; omega), ← HI.out.1]
          case measure => simp [intOf]; omega
    · have hlt' : ¬ (k : Int) < (M.length : Int) := by omega
      obtain rfl : k = M.length := by omega
      rw [List.take_length] at hWk
      have HWk : Hid (Wk = ((x, y) :: wo x M).take cap.toNat) := hWk
      clear hWk
      go_wp2
      go_ret
      refine ⟨bk, ck, ?_, ?_, hbk, hK⟩
      · rw [← HWk.out]; rfl
      · rw [← HWk.out]; exact hR

/-- a list of entries that may be nil -/
def NilPost (W : List (Int × Int)) (w : World) (e : Ending) (w' : World) : Prop :=
  ∃ a cap, e = .returned (.slice a W.length cap) ∧ SliceAt w' 26 2 (.slice a W.length cap) W.length (ecell (eK W) (eV W)) ∧ (∀ b, (Value.slice a W.length cap).ownBlock = some b → w.heap.size ≤ b) ∧ Keeps [] w w'

set_option maxRecDepth 100000 in
set_option maxHeartbeats 4000000 in
theorem iwithout_at (w : World) (b off : Nat) (a : Option Addr) (mc : Nat) (M : List (Int × Int)) (key : Int) (hE : InRow w b off a M.length 2 (ecell (eK M) (eV M))) (hl : M.length ≤ 100000) :
    Calls Ydxm.prog 38 #[.slice a M.length mc, .int .i64 key] w (NilPost (wo key M) w) := by
  have hl' : (M.length : Int) ≤ 100000 := by omega
  have HE : Hid (InRow w b off a M.length 2 (ecell (eK M) (eV M))) := hE
  obtain ⟨i0, hi0, hz0, hz1, hz2⟩ := info_parts infoEntry
  clear hE
  go_enter Ydxm.func38, Ydxm.ntmps38
  go_wp2
  go_loopw [5, 10] (fun v j wr => ∃ k ck : Nat, ∃ ao : Option Addr, ∃ Wk : List (Int × Int), k ≤ M.length ∧ j = .int .i64 k ∧ v = .slice ao Wk.length ck ∧ Wk = wo key (M.take k) ∧ SliceAt wr 26 2 (.slice ao Wk.length ck) Wk.length (ecell (eK Wk) (eV Wk)) ∧ (∀ b, (Value.slice ao Wk.length ck).ownBlock = some b → w.heap.size ≤ b) ∧ Keeps [] w wr) (fun _ j _ => M.length - (intOf j).toNat)
  case atStart => exact ⟨0, 0, none, [], by omega, rfl, rfl, by simp [wo], SliceAt.nil _ _ _ _, fun b hb => by simp [Value.ownBlock] at hb, Keeps.refl _ _⟩
  case round =>
    obtain ⟨k, ck, ao, Wk, hk, rfl, rfl, hWk, hS, hown, hK⟩ := hrel
    have hkz := hK.size
    have hWl : Wk.length ≤ k := by
      have := List.length_filter_le (fun e : Int × Int => decide (e.1 ≠ key)) (M.take k)
      rw [List.length_take] at this
      rw [hWk]; unfold wo; omega
    by_cases hlt : k < M.length
    · have hlt' : (k : Int) < (M.length : Int) := by omega
      have E1 := HE.out.keeps hK (by simp)
      obtain ⟨e0, e1⟩ := E1.ents k hlt
      obtain rfl := E1.addr (by omega)
      have hbl := E1.lt (by omega)
      have HI : Hid (Wk = wo key (M.take k) ∧ SliceAt wr 26 2 (.slice ao Wk.length ck) Wk.length (ecell (eK Wk) (eV Wk)) ∧ (∀ b, (Value.slice ao Wk.length ck).ownBlock = some b → w.heap.size ≤ b) ∧ Keeps [] w wr) := ⟨hWk, hS, hown, hK⟩
      clear hWk hS hown hK E1
      by_cases heq : eK M k = key
      · have HQ : Hid (eK M k = key) := heq
        rw [heq] at e0
        clear heq
        go_wp2
        go_roundw
        case rel => exact ⟨k + 1, ck, ao, Wk, by omega, by go_num, rfl, by rw [wo_take_no hlt HQ.out]; exact HI.out.1, HI.out.2.1.alloc _, HI.out.2.2.1, HI.out.2.2.2.alloc _⟩
        case measure => simp [intOf]; omega
      · have HQ : Hid (¬ eK M k = key) := heq
        have hbb : (eK M k != key) = true := by rw [bne_iff_ne]; exact heq
        clear heq
        go_wp2_with (at_builtin; refine wp_append1 _ rfl (.tmp 18) (.tmp 20) 29 rfl 26 i0 _ 2 16 Ydxm.underlying29 hi0 hz0 hz1 hz2 rfl (by omega) (.slice ao Wk.length ck) Wk.length (ecell (eK Wk) (eV Wk)) rfl ?hS (wr.heap.size + 1) rfl #[.int .i64 (eK M k), .int .i64 (eV M k)] 26 ?hB rfl ?h1 (by omega) (by omega) ?_)
        case hS => exact (HI.out.2.1.alloc _).alloc _
        case hB =>
          have := heap_alloc_new (wr.alloc (.cells #[.int .i64 (eK M k), .int .i64 (eV M k)] 26)) (.cells #[.int .i64 (eK M k), .int .i64 (eV M k)] 26)
          rw [World.size_alloc] at this
          first | exact this | exact (Array.getElem?_eq_some_iff.1 this).2
        case h1 => first | exact ⟨rfl, rfl⟩ | (simp; exact ⟨rfl, rfl⟩)
        intro b' cap' w5 hr2 hk2 hbb2
        have hr3 := hr2.snocE
        have hk3 : Keeps [] w w5 := ((HI.out.2.2.2.alloc _).alloc _).trans hk2 (fun x hx => .inr (HI.out.2.2.1 x (by simpa using hx)))
        have hb3 : w.heap.size ≤ b' := by
          rcases hbb2 with h | h
          · exact HI.out.2.2.1 b' h
          · (try simp at h); omega
        have HN : Hid (RowAt w5 b' 26 2 (Wk ++ [(eK M k, eV M k)]).length cap' (ecell (eK (Wk ++ [(eK M k, eV M k)])) (eV (Wk ++ [(eK M k, eV M k)]))) ∧ Keeps [] w w5) := ⟨hr3, hk3⟩
        clear hr2 hk2 hbb2 hr3 hk3 e0 e1
        go_wp2
        go_roundw
        case rel => exact ⟨k + 1, cap', some ⟨b', 0, none⟩, Wk ++ [(eK M k, eV M k)], by omega, by go_num, by simp, by rw [wo_take_yes hlt HQ.out, ← HI.out.1], HN.out.1.sliceAt, fun b1 h1 => by simp [Value.ownBlock] at h1; omega, HN.out.2⟩
        case measure => simp [intOf]; omega
    · have hlt' : ¬ (k : Int) < (M.length : Int) := by omega
      obtain rfl : k = M.length := by omega
      rw [List.take_length] at hWk
      have HWk : Hid (Wk = wo key M) := hWk
      clear hWk
      go_wp2
      go_ret
      refine ⟨ao, ck, ?_, ?_, ?_, hK⟩
      · rw [← HWk.out]; rfl
      · rw [← HWk.out]; exact hS
      · rw [← HWk.out]; exact hown

theorem get_take {M : List (Int × Int)} {cap : Int} (hn : (M.map Prod.fst).Nodup) (hl : (M.length : Int) ≤ cap) {k : Nat} (hk : k < M.length) (hno : ∀ j, j < k → eK M j ≠ eK M k) : ((eK M k, eV M k) :: wo (eK M k) M).take cap.toNat = mget M (eK M k) := by
  obtain ⟨h1, h2⟩ := idx_at hk rfl hno
  have e : mget M (eK M k) = (eK M k, eV M k) :: wo (eK M k) M := by rw [mget_wo hn, if_neg (by rw [h1]; simp), h2]
  rw [← e, List.take_of_length_le]
  rw [mget_length]; omega

theorem sstep_le (m g r e cap : Int) (M : List (Int × Int)) (o k v : Int) : (sstep m g r e cap M o k v).length ≤ M.length + 1 := by
  unfold sstep
  split
  · rw [mget_length]; omega
  · split
    · unfold mremove; split
      · have := List.length_eraseIdx_le M ‹Nat›; omega
      · omega
    · split
      · rw [List.length_dropLast]; omega
      · unfold mput; split
        · omega
        · split
          · have := List.length_eraseIdx_le M ‹Nat›; rw [List.length_cons]; omega
          · rw [List.length_cons]; split
            · rw [List.length_dropLast]; omega
            · omega

set_option maxRecDepth 100000 in
set_option maxHeartbeats 8000000 in
theorem imodel_at (w : World) (cap : Int) (hc : 0 ≤ cap) (b off : Nat) (a : Option Addr) (len scap : Nat) (z : Nat → Nat → Int) (hS : Script w b off a len z) (hl : len ≤ 10000) :
    Calls Ydxm.prog 19 #[.int .i64 cap, .slice a len scap] w (NilPost (splay 5 2 3 4 cap z [] len) w) := by
  have hl' : (len : Int) ≤ 10000 := by omega
  have HS : Hid (Script w b off a len z) := hS
  have HOK : Hid (∀ n, ((splay 5 2 3 4 cap z [] n).map Prod.fst).Nodup ∧ ((splay 5 2 3 4 cap z [] n).length : Int) ≤ cap) := splay_ok hc z
  clear hS
  go_enter Ydxm.func19, Ydxm.ntmps19
  go_wp2
  go_loopw [5, 12] (fun v i wr => ∃ k mc : Nat, ∃ ma : Option Addr, k ≤ len ∧ i = .int .i64 k ∧ v = .slice ma (splay 5 2 3 4 cap z [] k).length mc ∧ (splay 5 2 3 4 cap z [] k).length ≤ k ∧ SliceAt wr 26 2 (.slice ma (splay 5 2 3 4 cap z [] k).length mc) (splay 5 2 3 4 cap z [] k).length (ecell (eK (splay 5 2 3 4 cap z [] k)) (eV (splay 5 2 3 4 cap z [] k))) ∧ (∀ b', (Value.slice ma (splay 5 2 3 4 cap z [] k).length mc).ownBlock = some b' → w.heap.size ≤ b') ∧ Keeps [] w wr) (fun _ i _ => len - (intOf i).toNat)
  case atStart => exact ⟨0, 0, none, by omega, rfl, rfl, by simp [splay], SliceAt.nil _ _ _ _, fun b h => by simp [Value.ownBlock] at h, Keeps.refl _ _⟩
  case round =>
    obtain ⟨k, mc, ma, hk, rfl, rfl, hMl, hSl, hown, hK⟩ := hrel
    have hsz := hK.size
    by_cases hlt : k < len
    · have hlt' : (k : Int) < (len : Int) := by omega
      have S2 := HS.out.keeps hK (by simp)
      obtain rfl := S2.1.addr (by omega)
      have hblt := S2.1.lt (by omega)
      obtain ⟨g0, g1, g2⟩ := instr3 S2.1 k hlt
      obtain ⟨b0, b1⟩ := S2.2 k hlt
      have hstep : splay 5 2 3 4 cap z [] (k + 1) = sstep 5 2 3 4 cap (splay 5 2 3 4 cap z [] k) (z k 0) (z k 1) (z k 2) := rfl
      have hok := HOK.out k
      have hok2 := HOK.out (k + 1)
      have hle2 := sstep_le 5 2 3 4 cap (splay 5 2 3 4 cap z [] k) (z k 0) (z k 1) (z k 2)
      obtain ⟨hnd, hcapl⟩ := HOK.out k
      obtain ⟨ra, rc, rb, hv, hE, hob⟩ := hSl.inRow
      obtain ⟨rfl, rfl⟩ : ma = ra ∧ mc = rc := by simpa using hv
      clear hv
      have HST : Hid (splay 5 2 3 4 cap z [] (k + 1) = sstep 5 2 3 4 cap (splay 5 2 3 4 cap z [] k) (z k 0) (z k 1) (z k 2)) := hstep
      have HLE : Hid ((sstep 5 2 3 4 cap (splay 5 2 3 4 cap z [] k) (z k 0) (z k 1) (z k 2)).length ≤ (splay 5 2 3 4 cap z [] k).length + 1) := hle2
      have HI : Hid (SliceAt wr 26 2 (.slice ma (splay 5 2 3 4 cap z [] k).length mc) (splay 5 2 3 4 cap z [] k).length (ecell (eK (splay 5 2 3 4 cap z [] k)) (eV (splay 5 2 3 4 cap z [] k))) ∧ (∀ b', (Value.slice ma (splay 5 2 3 4 cap z [] k).length mc).ownBlock = some b' → w.heap.size ≤ b') ∧ Keeps [] w wr ∧ ((splay 5 2 3 4 cap z [] k).map Prod.fst).Nodup ∧ InRow wr rb 0 ma (splay 5 2 3 4 cap z [] k).length 2 (ecell (eK (splay 5 2 3 4 cap z [] k)) (eV (splay 5 2 3 4 cap z [] k)))) := ⟨hSl, hown, hK, hnd, hE⟩
      clear hSl hown hK S2 hstep hle2 hok hok2 hnd hE hob
      generalize splay 5 2 3 4 cap z [] k = M at *
      generalize hzo : z k 0 = o at *
      generalize hzk : z k 1 = ky at *
      generalize hzv : z k 2 = vl at *
      clear hzo hzk hzv
      have hEA := fun (ob : Obj) => HI.out.2.2.2.2.keeps ((Keeps.refl [] wr).alloc ob) (by simp)
      obtain ⟨r, hr⟩ : ∃ r, r = o % 5 := ⟨_, rfl⟩
      have hr0 : 0 ≤ r := by omega
      have hr1 : r < 5 := by omega
      have hor : o % 5 = r := hr.symm
      by_cases h2 : r = 2
      · have HE2 : Hid (sstep 5 2 3 4 cap M o ky vl = mget M ky) := by unfold sstep; rw [hor, if_pos h2]; rfl
        subst h2
        clear hr
        have hMi : (M.length : Int) ≤ 10000 := by omega
        have q1 : (wr.alloc (.cells #[.int .u8 o, .int .i64 ky, .int .i64 vl] 72)).cell? ⟨wr.heap.size, 1, none⟩ = some (.int .i64 ky) := by simp
        have HB : Hid ((wr.alloc (.cells #[.int .u8 o, .int .i64 ky, .int .i64 vl] 72)).cell? ⟨wr.heap.size, 1, none⟩ = some (.int .i64 ky) ∧ SliceAt (wr.alloc (.cells #[.int .u8 o, .int .i64 ky, .int .i64 vl] 72)) 26 2 (.slice ma M.length mc) M.length (ecell (eK M) (eV M)) ∧ InRow (wr.alloc (.cells #[.int .u8 o, .int .i64 ky, .int .i64 vl] 72)) rb 0 ma M.length 2 (ecell (eK M) (eV M)) ∧ Keeps [] w (wr.alloc (.cells #[.int .u8 o, .int .i64 ky, .int .i64 vl] 72)) ∧ (∀ b', (Value.slice ma M.length mc).ownBlock = some b' → w.heap.size ≤ b') ∧ (M.map Prod.fst).Nodup) := ⟨q1, HI.out.1.alloc _, hEA _, HI.out.2.2.1.alloc _, HI.out.2.1, HI.out.2.2.2.1⟩
        have hs1 : wr.heap.size < (wr.alloc (.cells #[.int .u8 o, .int .i64 ky, .int .i64 vl] 72)).heap.size := by simp
        clear hEA q1
        go_wp2
        clear g0 g1 g2
        clear HI
        generalize wr = wo0 at *
        obtain ⟨wo1, hwo1⟩ : ∃ wo1, wo1 = wo0.alloc (.cells #[.int .u8 o, .int .i64 ky, .int .i64 vl] 72) := ⟨_, rfl⟩
        rw [← hwo1] at HB hs1
        have HWO : Hid (wo0.alloc (.cells #[.int .u8 o, .int .i64 ky, .int .i64 vl] 72) = wo1) := hwo1.symm
        clear hwo1
        obtain ⟨bs, hbs0⟩ : ∃ bs, bs = wo0.heap.size := ⟨_, rfl⟩
        rw [← hbs0] at HB hs1 hsz hblt
        go_loopw [5, 33] (fun v j wq => ∃ t : Nat, t ≤ M.length ∧ j = .int .i64 t ∧ v = .slice ma M.length mc ∧ (∀ s, s < t → eK M s ≠ ky) ∧ Keeps [] wo1 wq) (fun _ j _ => M.length - (intOf j).toNat)
        case atStart => exact ⟨0, by omega, rfl, rfl, fun s h => absurd h (by omega), by rw [HWO.out]; exact Keeps.refl _ _⟩
        case round =>
          rw [← hbs0]
          clear HWO hbs0
          obtain ⟨t, ht, rfl, rfl, hno, hKq⟩ := hrel
          have hqz := hKq.size
          by_cases htl : t < M.length
          · have htl' : (t : Int) < (M.length : Int) := by omega
            have E1 := HB.out.2.2.1.keeps hKq (by simp)
            obtain ⟨e0, e1⟩ := E1.ents t htl
            rw [Nat.zero_add] at e0 e1
            obtain rfl := E1.addr (by omega)
            have hbl := E1.lt (by omega)
            have q1 := hKq.cell HB.out.1 (by simp)
            have hbs : bs < wr.heap.size := by omega
            have HQ : Hid ((∀ s, s < t → eK M s ≠ ky) ∧ Keeps [] wo1 wr) := ⟨hno, hKq⟩
            by_cases heq : eK M t = ky
            · have EA := E1.keeps ((Keeps.refl [] wr).alloc (.cells #[.int .i64 (eK M t), .int .i64 (eV M t)] 26)) (by simp)
              have CC := ifront_at (wr.alloc (.cells #[.int .i64 (eK M t), .int .i64 (eV M t)] 26)) rb 0 _ mc M (eK M t) (eV M t) cap (by omega) EA (by omega)
              rw [get_take HB.out.2.2.2.2.2 hcapl htl (by rw [heq]; exact hno), heq] at CC
              rw [heq] at e0
              clear heq hno hKq E1 EA
              go_wp2_with fail
              refine CC.mono ?_
              rintro e w2 ⟨bz, mc2, rfl, R2, hown2, K2⟩
              clear CC
              have HN : Hid (RowAt w2 bz 26 2 (mget M ky).length mc2 (ecell (eK (mget M ky)) (eV (mget M ky))) ∧ w.heap.size ≤ bz ∧ Keeps [] w w2) := ⟨R2, by have := HB.out.2.2.2.1.size; simp at hown2; omega, ((HB.out.2.2.2.1.trans HQ.out.2 (by simp)).alloc _).trans K2 (by simp)⟩
              clear R2 hown2 K2
              go_wp2
              go_roundw
              case rel =>
                refine ⟨k + 1, mc2, some ⟨bz, 0, none⟩, by omega, by go_num, ?_⟩
                rw [HST.out, HE2.out]
                exact ⟨rfl, by have := HLE.out; rw [HE2.out] at this; omega, HN.out.1.sliceAt, fun b1 h1 => by simp [Value.ownBlock] at h1; have := HN.out.2.1; omega, HN.out.2.2⟩
              case measure => simp [intOf]; omega
            · have hbb : (eK M t == ky) = false := beq_eq_false_iff_ne.2 heq
              have HX : Hid (¬ eK M t = ky) := heq
              clear heq hno hKq E1
              go_wp2
              go_roundw
              case rel =>
                refine ⟨t + 1, by omega, by go_num, rfl, fun s hs => ?_, HQ.out.2.alloc _⟩
                by_cases e : s = t
                · rw [e]; exact HX.out
                · exact HQ.out.1 s (by omega)
              case measure => simp [intOf]; omega
          · have htl' : ¬ (t : Int) < (M.length : Int) := by omega
            obtain rfl : t = M.length := by omega
            have HX : Hid (mget M ky = M) := by unfold mget; rw [(idx_no hno).1]; rfl
            have HQ : Hid (Keeps [] wo1 wr) := hKq
            clear hno hKq
            go_wp2
            go_roundw
            case rel =>
              refine ⟨k + 1, mc, ma, by omega, by go_num, ?_⟩
              rw [HST.out, HE2.out, HX.out]
              exact ⟨rfl, by omega, HB.out.2.1.keeps HQ.out (by simp), HB.out.2.2.2.2.1, HB.out.2.2.2.1.trans HQ.out (by simp)⟩
            case measure => simp [intOf]; omega
      · by_cases h3 : r = 3
        · have HE2 : Hid (sstep 5 2 3 4 cap M o ky vl = wo ky M) := by unfold sstep; rw [hor, if_neg h2, if_pos h3, mremove_wo HI.out.2.2.2.1]; rfl
          subst h3
          clear hr
          have CC := iwithout_at (wr.alloc (.cells #[.int .u8 o, .int .i64 ky, .int .i64 vl] 72)) rb 0 ma mc M ky (hEA _) (by omega)
          clear hEA
          go_wp2_with fail
          refine CC.mono ?_
          rintro e w2 ⟨ma2, mc2, rfl, SL2, hown2, K2⟩
          clear CC
          have HN : Hid (SliceAt w2 26 2 (.slice ma2 (wo ky M).length mc2) (wo ky M).length (ecell (eK (wo ky M)) (eV (wo ky M))) ∧ (∀ b', (Value.slice ma2 (wo ky M).length mc2).ownBlock = some b' → w.heap.size ≤ b') ∧ Keeps [] w w2) := ⟨SL2, fun b' h => by have := hown2 b' h; simp at this; omega, (HI.out.2.2.1.alloc _).trans K2 (by simp)⟩
          clear SL2 hown2 K2
          go_wp2
          go_roundw
          case rel =>
            refine ⟨k + 1, mc2, ma2, by omega, by go_num, ?_⟩
            rw [HST.out, HE2.out]
            exact ⟨rfl, by have := HLE.out; rw [HE2.out] at this; omega, HN.out.1, HN.out.2.1, HN.out.2.2⟩
          case measure => simp [intOf]; omega
        · by_cases h4 : r = 4
          · have HE2 : Hid (sstep 5 2 3 4 cap M o ky vl = M.dropLast) := by unfold sstep; rw [hor, if_neg h2, if_neg h3, if_pos h4]; rfl
            subst h4
            clear hr hEA
            by_cases hM : 0 < M.length
            · have hM' : (0 : Int) < (M.length : Int) := by omega
              rcases HI.out.1 with ⟨_, h⟩ | ⟨bz, cz, hv, R1⟩
              · exact absurd h (by omega)
              · obtain ⟨rfl, rfl⟩ : ma = some ⟨bz, 0, none⟩ ∧ mc = cz := by simpa using hv
                clear hv
                obtain ⟨m, hm⟩ : ∃ m, M.length = m + 1 := ⟨M.length - 1, by omega⟩
                have hcap : m + 1 ≤ mc := by have := R1.le; omega
                have hcap' : (m : Int) ≤ (mc : Int) := by omega
                have hcap2 : m ≤ mc := by omega
                have R2 := (R1.takeE (c := m) (by omega)).alloc (.cells #[.int .u8 o, .int .i64 ky, .int .i64 vl] 72)
                have hdl : M.dropLast = M.take m := by rw [List.dropLast_eq_take, hm]; rfl
                have hln : (M.take m).length = m := by rw [List.length_take]; omega
                have HX : Hid (M.dropLast = M.take m ∧ (M.take m).length = m ∧ M.length = m + 1 ∧ w.heap.size ≤ bz) := ⟨hdl, hln, hm, HI.out.2.1 bz rfl⟩
                rw [hm]
                have hmi : (m : Int) ≤ 10000 := by omega
                clear hdl hln hm R1
                go_wp2
                go_roundw
                case rel =>
                  refine ⟨k + 1, mc, some ⟨bz, 0, none⟩, by omega, by go_num, ?_⟩
                  rw [HST.out, HE2.out, HX.out.1]
                  exact ⟨by rw [HX.out.2.1], by rw [HX.out.2.1]; have := HX.out.2.2.1; omega, R2.sliceAt, fun b1 h1 => by simp [Value.ownBlock] at h1; have := HX.out.2.2.2; omega, HI.out.2.2.1.alloc _⟩
                case measure => simp [intOf]; omega
            · have hM' : ¬ (0 : Int) < (M.length : Int) := by omega
              have hnil : M = [] := List.eq_nil_of_length_eq_zero (by omega)
              have HX : Hid (M.dropLast = M) := by rw [hnil]; rfl
              clear hnil
              go_wp2
              go_roundw
              case rel =>
                refine ⟨k + 1, mc, ma, by omega, by go_num, ?_⟩
                rw [HST.out, HE2.out, HX.out]
                exact ⟨rfl, by omega, HI.out.1.alloc _, HI.out.2.1, HI.out.2.2.1.alloc _⟩
              case measure => simp [intOf]; omega
          · have e2 : (r == 2) = false := beq_eq_false_iff_ne.2 h2
            have e3 : (r == 3) = false := beq_eq_false_iff_ne.2 h3
            have e4 : (r == 4) = false := beq_eq_false_iff_ne.2 h4
            by_cases hc0 : 0 < cap
            · have HE2 : Hid (sstep 5 2 3 4 cap M o ky vl = ((ky, vl) :: wo ky M).take cap.toNat) := by unfold sstep; rw [hor, if_neg h2, if_neg h3, if_neg h4, mput_wo HI.out.2.2.2.1 cap (by omega) hcapl]; rfl
              clear hr h2 h3 h4
              have CC := ifront_at (wr.alloc (.cells #[.int .u8 o, .int .i64 ky, .int .i64 vl] 72)) rb 0 ma mc M ky vl cap (by omega) (hEA _) (by omega)
              clear hEA
              go_wp2_with fail
              refine CC.mono ?_
              rintro e w2 ⟨bz, mc2, rfl, R2, hown2, K2⟩
              clear CC
              generalize hW : ((ky, vl) :: wo ky M).take cap.toNat = W at *
              have HN : Hid (RowAt w2 bz 26 2 W.length mc2 (ecell (eK W) (eV W)) ∧ w.heap.size ≤ bz ∧ Keeps [] w w2) := ⟨R2, by simp at hown2; omega, (HI.out.2.2.1.alloc _).trans K2 (by simp)⟩
              clear R2 hown2 K2 hW
              go_wp2
              go_roundw
              case rel =>
                refine ⟨k + 1, mc2, some ⟨bz, 0, none⟩, by omega, by go_num, ?_⟩
                rw [HST.out, HE2.out]
                exact ⟨rfl, by have := HLE.out; rw [HE2.out] at this; omega, HN.out.1.sliceAt, fun b1 h1 => by simp [Value.ownBlock] at h1; have := HN.out.2.1; omega, HN.out.2.2⟩
              case measure => simp [intOf]; omega
            · have HE2 : Hid (sstep 5 2 3 4 cap M o ky vl = M) := by unfold sstep; rw [hor, if_neg h2, if_neg h3, if_neg h4]; unfold mput; rw [if_pos (by omega)]; rfl
              clear hr h2 h3 h4 hEA
              go_wp2
              go_roundw
              case rel =>
                refine ⟨k + 1, mc, ma, by omega, by go_num, ?_⟩
                rw [HST.out, HE2.out]
                exact ⟨rfl, by omega, HI.out.1.alloc _, HI.out.2.1, HI.out.2.2.1.alloc _⟩
              case measure => simp [intOf]; omega
    · have hlt' : ¬ (k : Int) < (len : Int) := by omega
      obtain rfl : k = len := by omega
      go_wp2
      go_ret
      exact ⟨ma, mc, rfl, hSl, hown, hK⟩
end Go.Proofs.Ymbrdx
