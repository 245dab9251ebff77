/- The walks of Order and Restore. -/
import Derived.Test.YmbrdwPlain2
import Derived.Deep.RegionWith
namespace Go.Proofs.Ymbrdw
open Go.RowKit

/-- the keys and values of a cache's list, by their place -/
def Cs.ek (c : Cs) (j : Nat) : Int := c.key (c.slot j).toNat
def Cs.ev (c : Cs) (j : Nat) : Int := c.val (c.slot j).toNat

theorem upd_part {f : Nat → Int} {g : Nat → Int} {n k : Nat} (h : ∀ j, j < k → g j = f j) (hn : n = k) : ∀ j, j < k + 1 → upd g n (f k) j = f j := fun j hj => by
  subst hn
  unfold upd; split
  · rename_i e; rw [e]
  · rename_i e; exact h j (by omega)

set_option maxHeartbeats 1000000 in
theorem Order_at (cb nb : Nat) (c : Cs) (w : World) (H : CacheAt w cb nb c) (hs : 0 ≤ c.size) (hs' : c.size ≤ 1000000) (hl : ∀ k : Nat, (k : Int) < c.size → ∃ s : Nat, c.slot k = s ∧ s < c.n) :
    Calls Ydwm.prog 22 #[.pointer (some ⟨cb, 0, none⟩)] w fun e w' => ∃ b cap, e = .returned (.slice (some ⟨b, 0, none⟩) c.size.toNat cap) ∧ RowAt w' b 28 2 c.size.toNat cap (ecell c.ek c.ev) ∧ w.heap.size ≤ b ∧ Keeps [] w w' := by
  have c1 := H.c1
  have c4 := H.c4
  have hlt := H.lt
  have hnlt := H.nlt
  have HH : Hid (CacheAt w cb nb c) := H
  have HL : Hid (∀ k : Nat, (k : Int) < c.size → ∃ s : Nat, c.slot k = s ∧ s < c.n) := hl
  obtain ⟨m, hm⟩ : ∃ m : Nat, c.size = m := ⟨c.size.toNat, by omega⟩
  have hmk : ∀ W, (Instr.makeSlice 37 (.int .i64 0) (.int .i64 c.size)).run Ydwm.prog W = .ok (.slice (some ⟨W.heap.size, 0, none⟩) 0 m) (W.alloc (.cells (madeCells #[.int .i64 0, .int .i64 0] (m * 2)) 28)) := fun W => by
    rw [hm]; exact make_entries0 m (by omega) W
  have HM : Hid (c.size = m) := hm
  have hmi : c.size.toNat = m := by omega
  rw [hmi]
  clear H hl hm hmi
  obtain ⟨i0, hi0, hz0, hz1, hz2⟩ := info_parts infoEntry
  go_enter Ydwm.func22, Ydwm.ntmps22
  go_wp2
  go_loopw [3, 4, 5] (fun o i n wr => ∃ k b cap : Nat, k ≤ m ∧ n = .int .i64 k ∧ i = .int .i64 (c.slot k) ∧ o = .slice (some ⟨b, 0, none⟩) k cap ∧ RowAt wr b 28 2 k cap (ecell c.ek c.ev) ∧ w.heap.size ≤ b ∧ Keeps [] w wr) (fun _ _ n _ => m - (intOf n).toNat)
  case atStart => exact ⟨0, w.heap.size, m, by omega, rfl, rfl, rfl, RowAt.made0 w 28 2 m _ (by have := HM.out; unfold maxLen; omega), Nat.le_refl _, (Keeps.refl _ _).alloc _⟩
  case round =>
    obtain ⟨k, b, cap, hk, rfl, rfl, rfl, hr, hb, hK⟩ := hrel
    have hms := HM.out
    have HC := HH.out.keeps hK (by simp) (by simp)
    have x4 := HC.c4
    by_cases hlt2 : k < m
    · have hlt' : (k : Int) < c.size := by omega
      obtain ⟨s, hs1, hs2⟩ := HL.out k hlt'
      obtain ⟨hne, ncap, x0, r⟩ := HC.row (by omega)
      obtain ⟨d0, d1, _, d3, _⟩ := r.nodes
      have e0 := d0 s hs2
      have e1 := d1 s hs2
      have e3 := d3 s hs2
      have hs2' : (s : Int) < (c.n : Int) := by omega
      have HS : Hid (c.slot k = s) := hs1
      rw [hs1]
      have hsz := hK.size
      have HR : Hid (RowAt wr b 28 2 k cap (ecell c.ek c.ev) ∧ Keeps [] w wr ∧ CacheAt wr cb nb c) := ⟨hr, hK, HC⟩
      clear hs1 r d0 d1 d3 hr hK hms HC
      go_wp2_with (at_builtin; refine wp_append1 _ rfl (.tmp 23) (.tmp 32) 37 rfl 28 i0 _ 2 16 Ydwm.underlying37 hi0 hz0 hz1 hz2 rfl (by omega) (.slice (some ⟨b, 0, none⟩) k cap) k (ecell c.ek c.ev) rfl ?hS wr.heap.size rfl #[.int .i64 (c.key s), .int .i64 (c.val s)] 28 ?hB rfl ?h1 (by omega) (by omega) ?_)
      case hS => exact (HR.out.1.alloc _).sliceAt
      case hB => exact heap_alloc_new _ _
      case h1 => first | exact ⟨rfl, rfl⟩ | (simp; exact ⟨rfl, rfl⟩)
      intro b' cap' w2 hr2 hk2 hbb
      have hr3 : RowAt w2 b' 28 2 (k + 1) cap' (ecell c.ek c.ev) := (hr2.congr (fun j hj => snoc_ecell k _ _ _ _ j hj)).congr (fun j hj => by
        have hk1 : c.key s = c.ek k := by unfold Cs.ek; rw [HS.out]; rfl
        have hv1 : c.val s = c.ev k := by unfold Cs.ev; rw [HS.out]; rfl
        unfold ecell
        rw [hk1, hv1, upd_part (f := c.ek) (fun _ _ => rfl) rfl (j / 2) (by omega), upd_part (f := c.ev) (fun _ _ => rfl) rfl (j / 2) (by omega)])
      have hk3 : Keeps [] w w2 := (HR.out.2.1.alloc _).trans hk2 (by simp [Value.ownBlock]; omega)
      have hb2 : w.heap.size ≤ b' := by
        rcases hbb with h | h
        · simp [Value.ownBlock] at h; omega
        · omega
      have HC2 : CacheAt w2 cb nb c := HH.out.keeps hk3 (by simp) (by simp)
      obtain ⟨_, ncap2, y0, r2⟩ := HC2.row (by omega)
      obtain ⟨_, _, _, d3, _⟩ := r2.nodes
      have e4 := d3 s hs2
      have HR2 : Hid (RowAt w2 b' 28 2 (k + 1) cap' (ecell c.ek c.ev) ∧ Keeps [] w w2) := ⟨hr3, hk3⟩
      clear hr2 hk2 hbb hr3 hk3 HC2 r2 d3 HR x0 e0 e1 e3 x4
      go_wp2
      go_roundw
      case rel => exact ⟨k + 1, b', cap', by omega, by go_num, by show _ = Value.int .i64 (c.next (c.slot k).toNat); rw [HS.out]; rfl, rfl, HR2.out.1, hb2, HR2.out.2⟩
      case measure => simp [intOf]; omega
    · have hlt' : ¬ (k : Int) < c.size := by omega
      obtain rfl : k = m := by omega
      clear HC hms hlt2
      go_wp2
      go_ret
      exact ⟨b, cap, rfl, hr, hb, hK⟩

theorem InRow.ents {w : World} {b off : Nat} {a : Option Addr} {len : Nat} {K V : Nat → Int} (h : InRow w b off a len 2 (ecell K V)) : ∀ i, i < len → w.cell? ⟨b, off + i * 2, none⟩ = some (.int .i64 (K i)) ∧ w.cell? ⟨b, off + i * 2 + 1, none⟩ = some (.int .i64 (V i)) := fun i hi =>
  ⟨by rw [h.cell (i * 2) (by omega), ecell_0], by rw [Nat.add_assoc, h.cell (i * 2 + 1) (by omega), ecell_1]⟩

/-- what stands while Restore fills the cache: the last p entries, in the slots 0 to p - 1 -/
structure RInv (c : Cs) (cap : Int) (len p : Nat) (K V : Nat → Int) : Prop where
  inv : Inv c (List.range p).reverse []
  n : c.n = p
  cap : c.cap = max cap 0
  key : ∀ s, s < p → c.key s = K (len - 1 - s)
  val : ∀ s, s < p → c.val s = V (len - 1 - s)

theorem RInv.start (cap : Int) (len : Nat) (K V : Nat → Int) : RInv (Cs.new cap) cap len 0 K V :=
  ⟨Inv.new cap, rfl, rfl, fun s hs => absurd hs (by omega), fun s hs => absurd hs (by omega)⟩

theorem RInv.step {c : Cs} {cap : Int} {len p : Nat} {K V : Nat → Int} (h : RInv c cap len p K V) (hp : p < len) (hl : (len : Int) ≤ max cap 0) (hb : len ≤ 1000000) (hf : c.find (K (len - 1 - p)) = -1) :
    RInv (c.put (K (len - 1 - p)) (V (len - 1 - p))) cap len (p + 1) K V := by
  have hs := h.inv.ch.size
  simp at hs
  have hn := h.n
  have hcap := h.cap
  have hkk : ∀ x ∈ (List.range p).reverse, c.key x ≠ K (len - 1 - p) := by
    rcases h.inv.ch.find_cases (K (len - 1 - p)) with ⟨hq, _⟩ | ⟨k, x, _, hk, hf', _, _⟩
    · exact pos_none hq
    · omega
  have e : c.put (K (len - 1 - p)) (V (len - 1 - p)) = c.grow.fill c.n (K (len - 1 - p)) (V (len - 1 - p)) := by
    unfold Cs.put; rw [if_neg (by omega), if_pos hf, if_neg (by omega)]
    unfold Cs.insert; rw [if_pos (by rw [h.inv.free]; rfl)]
  rw [e]
  have I := h.inv.growFill (by omega) (by omega) (K (len - 1 - p)) (V (len - 1 - p)) hkk
  have er : (List.range (p + 1)).reverse = p :: (List.range p).reverse := by rw [List.range_succ, List.reverse_append]; rfl
  refine ⟨by rw [er, ← hn]; rw [hn] at I ⊢; exact I, ?_, ?_, ?_, ?_⟩
  · unfold Cs.fill; rw [pushFront_n]; show c.n + 1 = p + 1; omega
  · unfold Cs.fill; rw [pushFront_cap]; exact hcap
  · intro s hs'
    unfold Cs.fill; rw [pushFront_key]
    show upd (upd c.key c.n 0) c.n (K (len - 1 - p)) s = _
    by_cases es : s = p
    · rw [hn, es, upd_same]
    · rw [upd_other _ _ _ _ (by omega), upd_other _ _ _ _ (by omega)]; exact h.key s (by omega)
  · intro s hs'
    unfold Cs.fill; rw [pushFront_val]
    show upd (upd c.val c.n 0) c.n (V (len - 1 - p)) s = _
    by_cases es : s = p
    · rw [hn, es, upd_same]
    · rw [upd_other _ _ _ _ (by omega), upd_other _ _ _ _ (by omega)]; exact h.val s (by omega)

/-- the keys are all different -/
def Distinct (len : Nat) (K : Nat → Int) : Prop := ∀ i j, i < j → j < len → K i ≠ K j

/-- what Restore answers -/
def RestorePost (cap : Int) (len : Nat) (K V : Nat → Int) (w : World) (e : Ending) (w' : World) : Prop :=
  Keeps [] w w' ∧ ∃ cb nb, w.heap.size ≤ cb ∧ w.heap.size ≤ nb ∧
    ((e = .returned (.tuple #[.pointer (some ⟨cb, 0, none⟩), .bool true]) ∧ (len : Int) ≤ max cap 0 ∧ Distinct len K ∧ ∃ c, CacheAt w' cb nb c ∧ RInv c cap len len K V) ∨
     (e = .returned (.tuple #[.pointer (some ⟨cb, 0, none⟩), .bool false]) ∧ ¬ ((len : Int) ≤ max cap 0 ∧ Distinct len K) ∧ nb = cb ∧ CacheAt w' cb cb (Cs.new cap)))

/-- an entry that is found has a twin -/
theorem RInv.twin {c : Cs} {cap : Int} {len p : Nat} {K V : Nat → Int} (h : RInv c cap len p K V) (hp : p < len) (hf : c.find (K (len - 1 - p)) ≠ -1) : ¬ Distinct len K := by
  rcases h.inv.ch.find_cases (K (len - 1 - p)) with ⟨_, hq⟩ | ⟨k, x, _, hk, hf', hkx, hxn⟩
  · exact absurd hq hf
  · have hx : x < p := by have := h.n; omega
    rw [h.key x hx] at hkx
    exact fun hd => hd (len - 1 - p) (len - 1 - x) (by omega) (by omega) hkx.symm
theorem RInv.fresh {c : Cs} {cap : Int} {len p : Nat} {K V : Nat → Int} (h : RInv c cap len p K V) (_hp : p < len) (hf : c.find (K (len - 1 - p)) = -1) : ∀ s, s < p → K (len - 1 - s) ≠ K (len - 1 - p) := by
  rcases h.inv.ch.find_cases (K (len - 1 - p)) with ⟨hq, _⟩ | ⟨k, x, _, hk, hf', hkx, hxn⟩
  · intro s hs e
    exact pos_none hq s (by simpa using hs) (by rw [h.key s hs]; exact e)
  · omega

set_option maxHeartbeats 2000000 in
theorem Restore_at (cap : Int) (b off : Nat) (a : Option Addr) (len ecap : Nat) (K V : Nat → Int) (w : World) (hE : InRow w b off a len 2 (ecell K V)) (hb : len ≤ 100000) :
    Calls Ydwm.prog 18 #[.int .i64 cap, .slice a len ecap] w (RestorePost cap len K V w) := by
  unfold RestorePost
  by_cases hbig : max cap 0 < (len : Int)
  · go_enter Ydwm.func18, Ydwm.ntmps18
    go_wp2_with fail
    refine (New_at cap w).mono ?_
    rintro e w1 ⟨rfl, H1, K1, S1⟩
    have c5 : w1.cell? ⟨w.heap.size, 5, none⟩ = some (.int .i64 (max cap 0)) := H1.c5
    go_wp2
    go_ret2
    exact ⟨K1, w.heap.size, w.heap.size, Nat.le_refl _, Nat.le_refl _, .inr ⟨rfl, fun h => by omega, rfl, H1⟩⟩
  · have hlen : (len : Int) ≤ 100000 := by omega
    go_enter Ydwm.func18, Ydwm.ntmps18
    go_wp2_with fail
    refine (New_at cap w).mono ?_
    rintro e w1 ⟨rfl, H1, K1, S1⟩
    have c5 : w1.cell? ⟨w.heap.size, 5, none⟩ = some (.int .i64 (max cap 0)) := H1.c5
    go_wp2
    go_loopw [7] (fun i wr => ∃ p nb : Nat, ∃ c : Cs, p ≤ len ∧ i = .int .i64 ((len : Int) - 1 - p) ∧ CacheAt wr w.heap.size nb c ∧ w.heap.size ≤ nb ∧ Keeps [] w wr ∧ RInv c cap len p K V ∧ (∀ s s', s < s' → s' < p → K (len - 1 - s) ≠ K (len - 1 - s'))) (fun i _ => (intOf i + 1).toNat)
    case atStart => exact ⟨0, w.heap.size, Cs.new cap, by omega, by simp, H1, Nat.le_refl _, K1, RInv.start cap len K V, fun s s' _ h => absurd h (by omega)⟩
    case round =>
      obtain ⟨p, nb, c, hp, rfl, HC, hnb, hK, hR, hD⟩ := hrel
      by_cases hpl : p < len
      · obtain ⟨q, hq⟩ : ∃ q : Nat, q = len - 1 - p := ⟨_, rfl⟩
        have hqi : (len : Int) - 1 - p = (q : Int) := by omega
        have hql : q < len := by omega
        have hql' : (q : Int) < (len : Int) := by omega
        rw [hqi]
        obtain rfl := hE.addr (by omega)
        have hblt := hE.lt (by omega)
        obtain ⟨g0, g1⟩ := (hE.keeps hK (by simp)).ents q hql
        have hs := hR.inv.ch.size
        simp at hs
        have FIND := find_at w.heap.size nb (K q) c wr HC (by omega) (by omega) hR.inv.ch.slots
        have HQ : Hid (q = len - 1 - p) := hq
        have HI : Hid (CacheAt wr w.heap.size nb c ∧ Keeps [] w wr ∧ RInv c cap len p K V ∧ (∀ s s', s < s' → s' < p → K (len - 1 - s) ≠ K (len - 1 - s'))) := ⟨HC, hK, hR, hD⟩
        have hRn := hR.n
        have hfz := hR.inv.free_ok
        have hsz := hK.size
        clear HC hK hR hD hq hqi c5 H1 K1
        by_cases hf : c.find (K q) = -1
        · have HF : Hid (c.find (K q) = -1) := hf
          rw [hf] at FIND
          have PUT := Put_at w.heap.size nb (K q) (V q) c _ wr.drew HI.out.1.drew HI.out.2.2.1.inv.ch (by simp; omega) (by omega) hfz
          have PP : Hid (Calls Ydwm.prog 25 #[.pointer (some ⟨w.heap.size, 0, none⟩), .int .i64 (K q), .int .i64 (V q)] wr.drew (PutPost w.heap.size nb c (K q) (V q) wr.drew)) := PUT
          clear PUT
          clear hf hs hRn hfz
          go_wp2_with fail
          refine FIND.mono ?_
          rintro e w2 ⟨rfl, rfl⟩
          clear FIND
          go_wp2_with fail
          go_region_with (go_at_call 25; refine PP.out.mono ?_; rintro e w3 ⟨rfl, hpp⟩)
          all_goals
            obtain ⟨nb2, HC2, hnb2, hK2⟩ := hpp
            have hq := HQ.out
            have RN : Hid (CacheAt w3 w.heap.size nb2 (c.put (K q) (V q)) ∧ w.heap.size ≤ nb2 ∧ Keeps [] w w3) := ⟨HC2, by simp at hnb2; omega, HI.out.2.1.drew.trans hK2 (by simp; omega)⟩
            clear HC2 hnb2 hK2 hq
            go_wp2
            go_roundw
            case rel =>
              have hq := HQ.out
              have R1 := HI.out.2.2.1.step hpl (by omega) (by omega) (by rw [← hq]; exact HF.out)
              have R2 := HI.out.2.2.1.fresh hpl (by rw [← hq]; exact HF.out)
              rw [← hq] at R1 R2
              refine ⟨p + 1, nb2, c.put (K q) (V q), by omega, ?_, RN.out.1, RN.out.2.1, RN.out.2.2, R1, fun s s' h1 h2 => ?_⟩
              · rw [show ((len : Int) - 1 - ((p + 1 : Nat) : Int)) = (q : Int) - 1 by omega]
              · by_cases e : s' = p
                · subst e; rw [← hq]; exact R2 s h1
                · exact HI.out.2.2.2 s s' h1 (by omega)
            case measure => (try simp [intOf]); (try omega)
        · have hne : c.find (K q) ≠ -1 := hf
          have hz : (c.find (K q) != -1) = true := by rw [bne_iff_ne]; exact hne
          have HF : Hid (c.find (K q) ≠ -1) := hne
          clear hf hne hs hRn hfz
          go_wp2_with fail
          refine FIND.mono ?_
          rintro e w2 ⟨rfl, rfl⟩
          clear FIND
          go_wp2_with fail
          refine (New_at cap _).mono ?_
          rintro e w3 ⟨rfl, H3, K3, S3⟩
          go_wp2
          go_ret2
          have hq := HQ.out
          exact ⟨HI.out.2.1.trans K3 (by simp), w2.heap.size, w2.heap.size, hsz, hsz, .inr ⟨rfl, fun h => HI.out.2.2.1.twin hpl (by rw [← hq]; exact HF.out) h.2, rfl, H3⟩⟩
      · obtain rfl : p = len := by omega
        clear c5 H1 K1
        have hi : (p : Int) - 1 - p = -1 := by omega
        rw [hi]
        go_wp2
        go_ret2
        refine ⟨hK, w.heap.size, nb, Nat.le_refl _, hnb, .inl ⟨rfl, by omega, fun i j h1 h2 e => ?_, c, HC, hR⟩⟩
        have := hD (p - 1 - j) (p - 1 - i) (by omega) (by omega)
        rw [show p - 1 - (p - 1 - j) = j by omega, show p - 1 - (p - 1 - i) = i by omega] at this
        exact this e.symm
end Go.Proofs.Ymbrdw
