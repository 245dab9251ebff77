/- The law HDrain: her walk. -/
import Derived.Test.YmbrdwPlain3
import Derived.Deep.RegionWith
namespace Go.Proofs.Ymbrdw
open Go.RowKit

/-- what hlast answers -/
def HlastPost (W : List (Int × Int)) (w : World) (e : Ending) (w' : World) : Prop :=
  ∃ a cap, e = .returned (.slice a W.length cap) ∧ SliceAt w' 28 2 (.slice a W.length cap) W.length (ecell (eK W) (eV W)) ∧ (∀ b, (Value.slice a W.length cap).ownBlock = some b → w.heap.size ≤ b) ∧ Keeps [] w w'

set_option maxHeartbeats 2000000 in
theorem hlast_at (w : World) (b off : Nat) (a : Option Addr) (len ecap : Nat) (K V : Nat → Int) (hE : InRow w b off a len 2 (ecell K V)) (hl : len ≤ 100000) :
    Calls Ydwm.prog 31 #[.slice a len ecap] w (HlastPost (lastOcc len K V) w) := by
  have hl' : (len : Int) ≤ 100000 := by omega
  have HE : Hid (InRow w b off a len 2 (ecell K V)) := hE
  clear hE
  obtain ⟨i0, hi0, hz0, hz1, hz2⟩ := info_parts infoEntry
  go_enter Ydwm.func31, Ydwm.ntmps31
  go_wp2
  go_loopw [3, 4] (fun o i wr => ∃ k : Nat, ∃ ao : Option Addr, ∃ cp : Nat, k ≤ len ∧ i = .int .i64 k ∧ o = .slice ao (lastPart len K V k).length cp ∧ SliceAt wr 28 2 (.slice ao (lastPart len K V k).length cp) (lastPart len K V k).length (ecell (eK (lastPart len K V k)) (eV (lastPart len K V k))) ∧ (∀ b, (Value.slice ao (lastPart len K V k).length cp).ownBlock = some b → w.heap.size ≤ b) ∧ Keeps [] w wr) (fun _ i _ => len - (intOf i).toNat)
  case atStart => exact ⟨0, none, 0, by omega, rfl, rfl, SliceAt.nil _ _ _ _, fun b hb => by simp [Value.ownBlock] at hb, Keeps.refl _ _⟩
  case round =>
    obtain ⟨k, ao, cp, hk, rfl, rfl, hS, hown, hK⟩ := hrel
    by_cases hlt : k < len
    · have hlt' : (k : Int) < (len : Int) := by omega
      have hlp := lastPart_le len k K V
      generalize hW : lastPart len K V k = W at *
      have HI : Hid (lastPart len K V k = W ∧ SliceAt wr 28 2 (.slice ao W.length cp) W.length (ecell (eK W) (eV W)) ∧ (∀ b, (Value.slice ao W.length cp).ownBlock = some b → w.heap.size ≤ b) ∧ Keeps [] w wr) := ⟨hW, hS, hown, hK⟩
      clear hS hown hK hW
      go_wp2
      generalize wr = wo1 at *
      go_loopw [5, 6] (fun ag j wq => ∃ (m : Nat) (bb : Bool), k + 1 ≤ m ∧ m ≤ len ∧ j = .int .i64 m ∧ ag = .bool bb ∧ (bb = true ↔ ∃ t, k < t ∧ t < m ∧ K t = K k) ∧ Keeps [] wo1 wq) (fun _ j _ => len - (intOf j).toNat)
      case atStart => exact ⟨k + 1, false, Nat.le_refl _, by omega, by go_num, rfl, ⟨fun h => absurd h (by simp), fun ⟨t, h1, h2, _⟩ => absurd h2 (by omega)⟩, Keeps.refl _ _⟩
      case round =>
        obtain ⟨m, bb, hm1, hm2, rfl, rfl, hbb, hK2⟩ := hrel
        have E1 := (HE.out.keeps HI.out.2.2.2 (by simp)).keeps hK2 (by simp)
        by_cases hml : m < len
        · have hml' : (m : Int) < (len : Int) := by omega
          obtain ⟨e0, _⟩ := E1.ents m hml
          obtain ⟨f0, _⟩ := E1.ents k hlt
          obtain rfl := E1.addr (by omega)
          have HB : Hid ((bb = true ↔ ∃ t, k < t ∧ t < m ∧ K t = K k) ∧ Keeps [] wo1 wr) := ⟨hbb, hK2⟩
          clear hbb hK2 E1
          by_cases heq : K m = K k
          · rw [heq] at e0
            have HQ : Hid (K m = K k) := heq
            clear heq
            go_wp2
            go_quiet (fail)
            go_wp2
            go_roundw
            case rel => exact ⟨m + 1, true, by omega, by omega, by go_num, rfl, ⟨fun _ => ⟨m, by omega, by omega, HQ.out⟩, fun _ => rfl⟩, HB.out.2.drewN _⟩
            case measure => simp [intOf]; omega
          · have hb : (K m == K k) = false := beq_eq_false_iff_ne.2 heq
            have HQ : Hid (¬ K m = K k) := heq
            clear heq
            go_wp2
            go_quiet (fail)
            go_wp2
            go_roundw
            case rel =>
              refine ⟨m + 1, bb, by omega, by omega, by go_num, rfl, ⟨fun h => ?_, fun ⟨t, h1, h2, h3⟩ => ?_⟩, HB.out.2.drewN _⟩
              · obtain ⟨t, h1, h2, h3⟩ := HB.out.1.1 h; exact ⟨t, h1, by omega, h3⟩
              · by_cases e : t = m
                · subst e; exact absurd h3 HQ.out
                · exact HB.out.1.2 ⟨t, h1, by omega, h3⟩
            case measure => simp [intOf]; omega
        · have hml' : ¬ (m : Int) < (len : Int) := by omega
          obtain rfl : m = len := by omega
          cases bb with
          | true =>
            have hkb : keepB m K k = false := by
              rw [Bool.eq_false_iff]; intro h
              obtain ⟨t, h1, h2, h3⟩ := hbb.1 rfl
              exact keepB_iff.1 h t h1 h2 h3
            have HQ : Hid (keepB m K k = false ∧ Keeps [] wo1 wr) := ⟨hkb, hK2⟩
            clear hkb hbb hK2 E1
            go_wp2
            go_roundw
            case rel =>
              rw [← HI.out.1]
              refine ⟨k + 1, ao, cp, by omega, by go_num, by rw [lastPart_no HQ.out.1], ?_, ?_, HI.out.2.2.2.trans HQ.out.2 (by simp)⟩
              · rw [lastPart_no HQ.out.1, HI.out.1]; exact HI.out.2.1.keeps HQ.out.2 (by simp)
              · rw [lastPart_no HQ.out.1, HI.out.1]; exact HI.out.2.2.1
            case measure => simp [intOf]; omega
          | false =>
            have hkb : keepB m K k = true := keepB_iff.2 fun t h1 h2 h3 => absurd (hbb.2 ⟨t, h1, h2, h3⟩) (by simp)
            obtain ⟨f0, f1⟩ := E1.ents k hlt
            obtain rfl := E1.addr (by omega)
            have HQ : Hid (keepB m K k = true ∧ Keeps [] wo1 wr) := ⟨hkb, hK2⟩
            clear hkb hbb hK2 E1
            go_wp2_with (at_builtin; refine wp_append1 _ rfl (.tmp 34) (.tmp 39) 37 rfl 28 i0 _ 2 16 Ydwm.underlying37 hi0 hz0 hz1 hz2 rfl (by omega) (.slice ao W.length cp) W.length (ecell (eK W) (eV W)) rfl ?hS wr.heap.size rfl #[.int .i64 (K k), .int .i64 (V k)] 28 ?hB rfl ?h1 (by omega) (by omega) ?_)
            case hS => exact (HI.out.2.1.keeps HQ.out.2 (by simp)).alloc _
            case hB => first | exact heap_alloc_new _ _ | exact (Array.getElem?_eq_some_iff.1 (heap_alloc_new _ _)).2
            case h1 => first | exact ⟨rfl, rfl⟩ | (simp; exact ⟨rfl, rfl⟩)
            intro b' cap' w2 hr2 hk2 hbb2
            have hr3 := hr2.snocE
            have hso := HQ.out.2.size
            have hsw := HI.out.2.2.2.size
            have hk3 : Keeps [] w w2 := ((HI.out.2.2.2.trans HQ.out.2 (by simp)).alloc _).trans hk2 (fun x hx => .inr (HI.out.2.2.1 x (by simpa using hx)))
            have hb3 : w.heap.size ≤ b' := by
              rcases hbb2 with h | h
              · exact HI.out.2.2.1 b' h
              · omega
            have HR : Hid (RowAt w2 b' 28 2 (W ++ [(K k, V k)]).length cap' (ecell (eK (W ++ [(K k, V k)])) (eV (W ++ [(K k, V k)]))) ∧ Keeps [] w w2) := ⟨hr3, hk3⟩
            clear hr2 hk2 hbb2 hr3 hk3 f0 f1
            go_wp2
            go_roundw
            case rel =>
              have e : lastPart m K V (k + 1) = W ++ [(K k, V k)] := by rw [lastPart_yes HQ.out.1, HI.out.1]
              refine ⟨k + 1, some ⟨b', 0, none⟩, cap', by omega, by go_num, by rw [e]; simp, ?_, ?_, HR.out.2⟩
              · rw [e]; exact HR.out.1.sliceAt
              · intro b1 h1; simp [Value.ownBlock] at h1; omega
            case measure => simp [intOf]; omega
    · have hlt' : ¬ (k : Int) < (len : Int) := by omega
      obtain rfl : k = len := by omega
      go_wp2
      go_ret
      exact ⟨ao, cp, rfl, hS, hown, hK⟩

theorem drop_rev {W : List (Int × Int)} {k : Nat} (hk : k < W.length) : ((W.drop k).reverse).getLastD (0, 0) = (eK W k, eV W k) ∧ ((W.drop k).reverse).dropLast = (W.drop (k + 1)).reverse ∧ ((W.drop k).reverse).isEmpty = false := by
  rw [List.drop_eq_getElem_cons hk, List.reverse_cons]
  refine ⟨?_, by rw [List.dropLast_concat], by simp⟩
  unfold eK eV
  simp [List.getD, hk]

set_option maxRecDepth 100000 in
set_option maxHeartbeats 4000000 in
theorem walk_HDrain (w : World) (a0 : Int) (w0 : (Lit.int .u32 a0).wf = true) (a1 : Option Addr) (len cap : Nat) (z : Nat → Nat → Int) (hz : InStr [.i64, .i64] w a1 len z) :
    Calls Ydwm.prog 13 #[.int .u32 a0, .slice a1 len cap] w fun e w' => e = .returned (.bool true) ∧ Below w.heap.size w w' := by
  by_cases hbig : 1024 < len
  · have hbig' : (1024 : Int) < (len : Int) := by omega
    go_enter Ydwm.func13, Ydwm.ntmps13
    go_wp2
    go_ret
    exact ⟨rfl, Below.refl _ _⟩
  have hlen : (len : Int) ≤ 1024 := by omega
  obtain ⟨b, off, hE⟩ := hz.ents
  obtain ⟨h00, h01⟩ := wf_u32 w0
  have hmx : max a0 0 = a0 := by omega
  have hen := entry_neq
  generalize (fun i => z i 0) = K at *
  generalize (fun i => z i 1) = V at *
  have HE : Hid (InRow w b off a1 len 2 (ecell K V)) := hE
  clear hz w0 hE
  go_enter Ydwm.func13, Ydwm.ntmps13
  go_wp2_with fail
  refine (New_held a0 w).mono ?_
  rintro e w1 ⟨rfl, H1, K1, S1⟩
  rw [hmx] at H1
  go_wp2
  go_loopw [7] (fun i wr => ∃ k nb : Nat, ∃ c : Cs, k ≤ len ∧ i = .int .i64 k ∧ Held wr w.heap.size nb c k a0 (pplay a0 K V k) ∧ w.heap.size ≤ nb ∧ Keeps [] w wr) (fun i _ => len - (intOf i).toNat)
  case atStart => exact ⟨0, _, _, by omega, rfl, H1, Nat.le_refl _, K1⟩
  case round =>
    obtain ⟨k, nb, c, hk, rfl, HC, hnb, hK⟩ := hrel
    clear H1 K1
    by_cases hlt : k < len
    · have hlt' : (k : Int) < (len : Int) := by omega
      have E1 := HE.out.keeps hK (by simp)
      obtain rfl := E1.addr (by omega)
      have hblt := E1.lt (by omega)
      obtain ⟨e0, e1⟩ := E1.ents k hlt
      have hsz := hK.size
      have hcl := HC.lt
      have hcn := HC.nlt
      have PUT := Put_held (K k) (V k) HC.drew (by omega)
      have PP : Hid (Calls Ydwm.prog 25 #[.pointer (some ⟨w.heap.size, 0, none⟩), .int .i64 (K k), .int .i64 (V k)] wr.drew fun e w' => e = .returned (.tuple #[.agg #[.int .i64 (mout a0 (pplay a0 K V k) (K k) (V k)).1, .int .i64 (mout a0 (pplay a0 K V k) (K k) (V k)).2], .bool (mok a0 (pplay a0 K V k) (K k))]) ∧
          ∃ nb', Held w' w.heap.size nb' (c.put (K k) (V k)) (k + 1) a0 (pplay a0 K V (k + 1)) ∧ (nb' = nb ∨ wr.drew.heap.size ≤ nb') ∧ Keeps [w.heap.size, nb] wr.drew w') := PUT
      have HI : Hid (Keeps [] w wr) := hK
      clear PUT HC hK E1
      go_wp2
      go_region_with (go_at_call 25; refine PP.out.mono ?_; rintro e w3 ⟨rfl, hpp⟩)
      all_goals
        obtain ⟨nb2, H2, hb2, K2⟩ := hpp
        have RN : Hid (Held w3 w.heap.size nb2 (c.put (K k) (V k)) (k + 1) a0 (pplay a0 K V (k + 1)) ∧ w.heap.size ≤ nb2 ∧ Keeps [] w w3) := ⟨H2, by simp at hb2; omega, HI.out.drew.trans K2 (by simp; omega)⟩
        clear H2 hb2 K2
        go_wp2
        go_roundw
        case rel => exact ⟨k + 1, nb2, c.put (K k) (V k), by omega, by go_num, RN.out.1, RN.out.2.1, RN.out.2.2⟩
        case measure => (try simp [intOf]); (try omega)
    · have hlt' : ¬ (k : Int) < (len : Int) := by omega
      obtain rfl : k = len := by omega
      rw [pplay_eq a0 h00] at HC
      have hsz := hK.size
      have hcl := HC.lt
      have hcn := HC.nlt
      have HI : Hid (Held wr w.heap.size nb c k a0 ((lastOcc k K V).reverse.take a0.toNat) ∧ Keeps [] w wr) := ⟨HC, hK⟩
      have HL := hlast_at wr b off a1 k cap K V (HE.out.keeps hK (by simp)) (by omega)
      clear HC hK
      go_wp2_with fail
      refine HL.mono ?_
      rintro e w2 ⟨ao, cp, rfl, hS, hown, K2⟩
      have hWl : (lastOcc k K V).length ≤ k := lastPart_le k k K V
      have hs2 := K2.size
      have H2 := HI.out.1.keeps K2 (by simp) (by simp)
      have KW := HI.out.2.trans K2 (by simp)
      generalize lastOcc k K V = W at *
      rw [List.take_reverse] at H2
      obtain ⟨st, hst⟩ : ∃ st, st = W.length - a0.toNat := ⟨_, rfl⟩
      rw [← hst] at H2
      have hWi : (W.length : Int) ≤ 1024 := by omega
      have HJ : Hid (Held w2 w.heap.size nb c k a0 (W.drop st).reverse ∧ Keeps [] w w2 ∧ SliceAt w2 28 2 (.slice ao W.length cp) W.length (ecell (eK W) (eV W)) ∧ (∀ b, (Value.slice ao W.length cp).ownBlock = some b → wr.heap.size ≤ b) ∧ st = W.length - a0.toNat) := ⟨H2, KW, hS, hown, hst⟩
      clear H2 KW hS hown HL HI K2 hst
      generalize hsr : wr.heap.size = sr at *
      by_cases hov : a0 < (W.length : Int)
      all_goals
        have hs0 : st ≤ W.length := by have := HJ.out.2.2.2.2; omega
        have hs1 : (if a0 < (W.length : Int) then (W.length : Int) - a0 else 0) = (st : Int) := by have := HJ.out.2.2.2.2; split <;> omega
        first | rw [if_pos hov] at hs1 | (rw [if_neg hov] at hs1; have HS1 : Hid ((0 : Int) = (st : Int)) := hs1; clear hs1)
        go_wp2
        go_loopw [10] (fun i wq => ∃ m : Nat, ∃ c : Cs, st ≤ m ∧ m ≤ W.length ∧ i = .int .i64 m ∧ Held wq w.heap.size nb c k a0 (W.drop m).reverse ∧ Keeps [] w wq ∧ SliceAt wq 28 2 (.slice ao W.length cp) W.length (ecell (eK W) (eV W))) (fun i _ => W.length - (intOf i).toNat)
        case atStart => exact ⟨st, c, Nat.le_refl _, hs0, by first | rw [← hs1] | rw [← HS1.out], HJ.out.1, HJ.out.2.1, HJ.out.2.2.1⟩
        case round =>
          obtain ⟨m, c', hm1, hm2, rfl, HC, hK, hS⟩ := hrel
          have hkz := hK.size
          have hc1 := HC.lt
          have hc2 := HC.nlt
          by_cases hml : m < W.length
          · have hml' : (m : Int) < (W.length : Int) := by omega
            obtain ⟨d1, d2, d3⟩ := drop_rev hml
            have EV := Evict_held HC (by omega)
            rw [d1, d2, d3] at EV
            obtain ⟨a2, c2, b2, hv, hR, hob⟩ := hS.inRow
            have hb2 := hob (by omega)
            obtain ⟨rfl, rfl⟩ : ao = a2 ∧ cp = c2 := by simpa using hv
            have hbo := HJ.out.2.2.2.1 b2 hb2
            obtain rfl := hR.addr (by omega)
            have HQ : Hid (Keeps [] w wr ∧ SliceAt wr 28 2 (.slice (some ⟨b2, 0, none⟩) W.length cp) W.length (ecell (eK W) (eV W)) ∧ InRow wr b2 0 (some ⟨b2, 0, none⟩) W.length 2 (ecell (eK W) (eV W))) := ⟨hK, hS, hR⟩
            clear HC hK hS hR d1 d2 d3 hv hob hb2
            go_wp2_with fail
            refine EV.mono ?_
            rintro e w4 ⟨rfl, H4, K4⟩
            clear EV
            have hS4 := HQ.out.2.1.keeps K4 (fun b hb => by simp [Value.ownBlock] at hb; simp; omega)
            have hR4 := HQ.out.2.2.keeps K4 (fun _ => by simp; omega)
            obtain ⟨e0, e1⟩ := hR4.ents m hml
            rw [Nat.zero_add] at e0 e1
            have hbl := hR4.lt (by omega)
            have KT : Keeps [] w w4 := HQ.out.1.trans K4 (by simp; omega)
            have HT : Hid (Held w4 w.heap.size nb c'.evict k a0 (W.drop (m + 1)).reverse ∧ Keeps [] w w4 ∧ SliceAt w4 28 2 (.slice (some ⟨b2, 0, none⟩) W.length cp) W.length (ecell (eK W) (eV W))) := ⟨H4, KT, hS4⟩
            clear H4 K4 hS4 hR4 KT
            go_wp2
            go_quiet (fail)
            go_wp2
            go_roundw
            case rel => exact ⟨m + 1, c'.evict, by omega, by omega, by go_num, (HT.out.1.alloc _).drewN _, (HT.out.2.1.alloc _).drewN _, (HT.out.2.2.alloc _).keeps ((Keeps.refl [] _).drewN _) (by simp)⟩
            case measure => simp [intOf]; omega
          · have hml' : ¬ (m : Int) < (W.length : Int) := by omega
            have hd : W.drop m = [] := List.drop_of_length_le (by omega)
            rw [hd] at HC
            have EV := Evict_held HC (by omega)
            have HQ : Hid (Keeps [] w wr) := hK
            clear HC hK hS hd
            simp at EV
            go_wp2_with fail
            refine EV.mono ?_
            rintro e w4 ⟨rfl, H4, K4⟩
            clear EV
            have LEN := Len_held (H4.alloc (.cells #[.int .i64 0, .int .i64 0] 28))
            simp at LEN
            have KT : Keeps [] w w4 := HQ.out.trans K4 (by simp; omega)
            go_wp2_with (go_at_call 26; refine LEN.mono ?_; rintro e w5 ⟨rfl, rfl⟩)
            go_ret
            exact ⟨rfl, (KT.alloc _).below (Nat.le_refl _) (by simp)⟩
end Go.Proofs.Ymbrdw
