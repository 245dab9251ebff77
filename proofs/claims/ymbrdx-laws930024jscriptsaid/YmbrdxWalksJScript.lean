/- The law JScript: her walk. -/
import Derived.Test.YmbrdxIModel
namespace Go.Proofs.Ymbrdx
open Go.RowKit

/-- where a held key is found -/
theorem Held.find {w : World} {cb nb N : Nat} {c : Cs} {cap : Int} {M : List (Int × Int)} (h : Held w cb nb c N cap M) (key : Int) :
    (idx key M = none ∧ c.find key = -1) ∨ ∃ k x : Nat, idx key M = some k ∧ c.find key = x ∧ x < c.n ∧ (c.key x, c.val x) = (eK M k, eV M k) := by
  obtain ⟨L, F, I, rfl⟩ := h.inv
  rcases I.ch.find_cases key with ⟨hp, hf⟩ | ⟨k, x, hp, hk, hf, _, _⟩
  · exact .inl ⟨by rw [idx_ents]; exact hp, hf⟩
  · refine .inr ⟨k, x, by rw [idx_ents]; exact hp, hf, I.ch.lt x (List.mem_of_getElem? hk), ?_⟩
    unfold eK eV
    rw [ents_getD hk]
theorem Find_held {w : World} {cb nb N : Nat} {c : Cs} {cap : Int} {M : List (Int × Int)} (key : Int) (h : Held w cb nb c N cap M) (hN : N ≤ 1000000) :
    Calls Ydxm.prog 24 #[.pointer (some ⟨cb, 0, none⟩), .int .i64 key] w fun e w' => e = .returned (.int .i64 (c.find key)) ∧ w' = w :=
  find_at cb nb key c w h.at_ (by have := h.size; omega) (by have := h.size; have := h.len_le; omega) h.slots

set_option maxRecDepth 100000 in
set_option maxHeartbeats 8000000 in
theorem walk_JScript (w : World) (a0 : Int) (w0 : (Lit.int .u8 a0).wf = true) (a1 : Option Addr) (len scap : Nat) (z : Nat → Nat → Int) (hz : InStr [.u8, .i64, .i64] w a1 len z) (key : Int) (_w2 : (Lit.int .i64 key).wf = true) :
    Calls Ydxm.prog 8 #[.int .u8 a0, .slice a1 len scap, .int .i64 key] w fun e w' => e = .returned (.bool true) ∧ Below w.heap.size w w' := by
  by_cases hbig : 512 < len
  · have hbig' : (512 : Int) < (len : Int) := by omega
    go_enter Ydxm.func8, Ydxm.ntmps8
    go_wp2
    go_ret
    exact ⟨rfl, Below.refl _ _⟩
  have hlen : (len : Int) ≤ 512 := by omega
  obtain ⟨b, off, hS⟩ := Script.of hz
  obtain ⟨h00, h01⟩ := wf_u8 w0
  have HS : Hid (Script w b off a1 len z) := hS
  clear hz w0 _w2 hS
  obtain ⟨cap, hcap⟩ : ∃ cap : Int, cap = (a0 + 4) % 12 := ⟨_, rfl⟩
  have hc0 : 0 ≤ cap := by omega
  have hmx : max cap 0 = cap := by omega
  rw [eq_comm] at hcap
  have HMX : Hid (max cap 0 = cap) := hmx
  clear hmx
  have hen := entry_neq
  obtain ⟨i0, hi0, hz0, hz1, hz2⟩ := info_parts infoEntry
  go_enter Ydxm.func8, Ydxm.ntmps8
  go_wp2_with fail
  refine (New_held cap w).mono ?_
  rintro e w1 ⟨rfl, H1, K1, S1⟩
  rw [HMX.out] at H1
  go_wp2
  clear hcap
  go_loopw [9, 32] (fun v i wr => ∃ k nb mc : Nat, ∃ ma : Option Addr, ∃ c : Cs, k ≤ len ∧ i = .int .i64 k ∧ v = .slice ma (splay 3 (-1) 2 (-1) cap z [] k).length mc ∧ Held wr w.heap.size nb c k cap (splay 3 (-1) 2 (-1) cap z [] k) ∧ w.heap.size ≤ nb ∧ SliceAt wr 26 2 (.slice ma (splay 3 (-1) 2 (-1) cap z [] k).length mc) (splay 3 (-1) 2 (-1) cap z [] k).length (ecell (eK (splay 3 (-1) 2 (-1) cap z [] k)) (eV (splay 3 (-1) 2 (-1) cap z [] k))) ∧ (∀ b', (Value.slice ma (splay 3 (-1) 2 (-1) cap z [] k).length mc).ownBlock = some b' → w.heap.size < b' ∧ b' ≠ nb) ∧ Keeps [] w wr) (fun _ i _ => len - (intOf i).toNat)
  case atStart => exact ⟨0, _, 0, none, _, by omega, rfl, rfl, H1, Nat.le_refl _, SliceAt.nil _ _ _ _, fun b h => by simp [Value.ownBlock] at h, K1⟩
  case round =>
    obtain ⟨k, nb, mc, ma, c, hk, rfl, rfl, HC, hnb, hSl, hown, hK⟩ := hrel
    clear H1 K1
    have hsz := hK.size
    have hcl := HC.lt
    have hcn := HC.nlt
    have hMl := HC.len_le
    have hMc := HC.len_cap
    by_cases hlt : k < len
    · have hlt' : (k : Int) < (len : Int) := by omega
      have S2 := HS.out.keeps hK (by simp)
      obtain rfl := S2.1.addr (by omega)
      have hblt := S2.1.lt (by omega)
      obtain ⟨g0, g1, g2⟩ := instr3 S2.1 k hlt
      obtain ⟨b0, b1⟩ := S2.2 k hlt
      have HST : Hid (splay 3 (-1) 2 (-1) cap z [] (k + 1) = sstep 3 (-1) 2 (-1) cap (splay 3 (-1) 2 (-1) cap z [] k) (z k 0) (z k 1) (z k 2)) := rfl
      generalize hM : splay 3 (-1) 2 (-1) cap z [] k = M at *
      clear hM
      generalize hzo : z k 0 = o at *
      generalize hzk : z k 1 = ky at *
      generalize hzv : z k 2 = vl at *
      clear hzo hzk hzv
      have hsl := hSl.lt
      have HI : Hid (SliceAt wr 26 2 (.slice ma M.length mc) M.length (ecell (eK M) (eV M)) ∧ (∀ b', (Value.slice ma M.length mc).ownBlock = some b' → w.heap.size < b' ∧ b' ≠ nb) ∧ Keeps [] w wr ∧ (M.map Prod.fst).Nodup) := ⟨hSl, hown, hK, HC.nodup⟩
      have HB := HC.alloc (.cells #[.int .u8 o, .int .i64 ky, .int .i64 vl] 52)
      have q1 : (wr.alloc (.cells #[.int .u8 o, .int .i64 ky, .int .i64 vl] 52)).cell? ⟨wr.heap.size, 1, none⟩ = some (.int .i64 ky) := by simp
      have q2 : (wr.alloc (.cells #[.int .u8 o, .int .i64 ky, .int .i64 vl] 52)).cell? ⟨wr.heap.size, 2, none⟩ = some (.int .i64 vl) := by simp
      have SB := hSl.alloc (.cells #[.int .u8 o, .int .i64 ky, .int .i64 vl] 52)
      have KB := hK.alloc (.cells #[.int .u8 o, .int .i64 ky, .int .i64 vl] 52)
      clear hSl hown hK S2 HC
      by_cases h2 : o % 3 = 2
      · have HE2 : Hid (sstep 3 (-1) 2 (-1) cap M o ky vl = wo ky M) := by unfold sstep; rw [if_neg (by omega), if_pos h2, mremove_wo HI.out.2.2.2]; rfl
        have CC := Remove_held ky HB (by omega)
        rw [mremove_wo HI.out.2.2.2] at CC
        clear HB
        go_wp2_with fail
        refine CC.mono ?_
        rintro e w2 ⟨rfl, H2, K2⟩
        clear CC
        have s2 := K2.size
        rw [World.size_alloc] at s2
        have p1 := K2.cell q1 (by simp; omega)
        have SL2 := SB.keeps K2 (fun b' hb' => by have := HI.out.2.1 b' hb'; simp; omega)
        have KA := KB.trans K2 (cs := [w.heap.size, nb]) (bs := []) (by simp; omega)
        obtain ⟨ra, rc, rb, hv, hE, _⟩ := SL2.inRow
        obtain ⟨rfl, rfl⟩ : ma = ra ∧ mc = rc := by simpa using hv
        have HJ : Hid (Held w2 w.heap.size nb (c.remove ky) k cap (wo ky M) ∧ InRow w2 rb 0 ma M.length 2 (ecell (eK M) (eV M)) ∧ Keeps [] w w2 ∧ w2.cell? ⟨wr.heap.size, 1, none⟩ = some (.int .i64 ky)) := ⟨H2, hE, KA, p1⟩
        have hMi : (M.length : Int) ≤ 512 := by omega
        have n2 := H2.nlt
        clear g0 g1 g2 K2 KA H2 SL2 hE hv q1 q2 p1 SB KB h2
        generalize wr = wo0 at *
        obtain ⟨bs, hbs⟩ : ∃ bs, bs = wo0.heap.size := ⟨_, rfl⟩
        go_wp2
        go_loopw [12, 46] (fun v j wq => ∃ t ck : Nat, ∃ ao : Option Addr, ∃ Wk : List (Int × Int), t ≤ M.length ∧ j = .int .i64 t ∧ v = .slice ao Wk.length ck ∧ Wk = wo ky (M.take t) ∧ SliceAt wq 26 2 (.slice ao Wk.length ck) Wk.length (ecell (eK Wk) (eV Wk)) ∧ (∀ b, (Value.slice ao Wk.length ck).ownBlock = some b → w2.heap.size ≤ b) ∧ Keeps [] w2 wq) (fun _ j _ => M.length - (intOf j).toNat)
        case atStart => exact ⟨0, 0, none, [], by omega, rfl, rfl, by simp [wo], SliceAt.nil _ _ _ _, fun b hb => by simp [Value.ownBlock] at hb, Keeps.refl _ _⟩
        case round =>
          obtain ⟨t, ck, ao, Wk, ht, rfl, rfl, hWk, hS, hown, hKq⟩ := hrel
          have hqz := hKq.size
          have hWl : Wk.length ≤ t := by
            have := List.length_filter_le (fun e : Int × Int => decide (e.1 ≠ ky)) (M.take t)
            rw [List.length_take] at this
            rw [hWk]; unfold wo; omega
          by_cases htl : t < M.length
          · have htl' : (t : Int) < (M.length : Int) := by omega
            have E1 := HJ.out.2.1.keeps hKq (by simp)
            obtain ⟨e0, e1⟩ := E1.ents t htl
            rw [Nat.zero_add] at e0 e1
            obtain rfl := E1.addr (by omega)
            have hbl := E1.lt (by omega)
            have p1 := hKq.cell HJ.out.2.2.2 (by simp)
            have hbs2 : wo0.heap.size < wr.heap.size := by omega
            have HQ : Hid (Wk = wo ky (M.take t) ∧ SliceAt wr 26 2 (.slice ao Wk.length ck) Wk.length (ecell (eK Wk) (eV Wk)) ∧ (∀ b, (Value.slice ao Wk.length ck).ownBlock = some b → w2.heap.size ≤ b) ∧ Keeps [] w2 wr) := ⟨hWk, hS, hown, hKq⟩
            clear hWk hS hown hKq E1
            by_cases heq : eK M t = ky
            · have HX : Hid (eK M t = ky) := heq
              rw [heq] at e0
              clear heq
              go_wp2
              go_roundw
              case rel => exact ⟨t + 1, ck, ao, Wk, by omega, by go_num, rfl, by rw [wo_take_no htl HX.out]; exact HQ.out.1, HQ.out.2.1.alloc _, HQ.out.2.2.1, HQ.out.2.2.2.alloc _⟩
              case measure => simp [intOf]; omega
            · have HX : Hid (¬ eK M t = ky) := heq
              have hbb : (eK M t != ky) = true := by rw [bne_iff_ne]; exact heq
              clear heq
              go_wp2_with (at_builtin; refine wp_append1 _ rfl (.tmp 55) (.tmp 57) 29 rfl 26 i0 _ 2 16 Ydxm.underlying29 hi0 hz0 hz1 hz2 rfl (by omega) (.slice ao Wk.length ck) Wk.length (ecell (eK Wk) (eV Wk)) rfl ?hS (wr.heap.size + 1) rfl #[.int .i64 (eK M t), .int .i64 (eV M t)] 26 ?hB rfl ?h1 (by omega) (by omega) ?_)
              case hS => exact (HQ.out.2.1.alloc _).alloc _
              case hB =>
                have := heap_alloc_new (wr.alloc (.cells #[.int .i64 (eK M t), .int .i64 (eV M t)] 26)) (.cells #[.int .i64 (eK M t), .int .i64 (eV M t)] 26)
                rw [World.size_alloc] at this
                first | exact this | exact (Array.getElem?_eq_some_iff.1 this).2
              case h1 => first | exact ⟨rfl, rfl⟩ | (simp; exact ⟨rfl, rfl⟩)
              intro b' cap' w5 hr2 hk2 hbb2
              have hr3 := hr2.snocE
              have hk3 : Keeps [] w2 w5 := ((HQ.out.2.2.2.alloc _).alloc _).trans hk2 (fun x hx => .inr (HQ.out.2.2.1 x (by simpa using hx)))
              have hb3 : w2.heap.size ≤ b' := by
                rcases hbb2 with h | h
                · exact HQ.out.2.2.1 b' h
                · (try simp at h); omega
              have HN : Hid (RowAt w5 b' 26 2 (Wk ++ [(eK M t, eV M t)]).length cap' (ecell (eK (Wk ++ [(eK M t, eV M t)])) (eV (Wk ++ [(eK M t, eV M t)]))) ∧ Keeps [] w2 w5) := ⟨hr3, hk3⟩
              clear hr2 hk2 hbb2 hr3 hk3 e0 e1 p1
              go_wp2
              go_roundw
              case rel => exact ⟨t + 1, cap', some ⟨b', 0, none⟩, Wk ++ [(eK M t, eV M t)], by omega, by go_num, by simp, by rw [wo_take_yes htl HX.out, ← HQ.out.1], HN.out.1.sliceAt, fun b1 h1 => by simp [Value.ownBlock] at h1; omega, HN.out.2⟩
              case measure => simp [intOf]; omega
          · have htl' : ¬ (t : Int) < (M.length : Int) := by omega
            obtain rfl : t = M.length := by omega
            rw [List.take_length] at hWk
            subst hWk
            have HQ : Hid (SliceAt wr 26 2 (.slice ao (wo ky M).length ck) (wo ky M).length (ecell (eK (wo ky M)) (eV (wo ky M))) ∧ (∀ b, (Value.slice ao (wo ky M).length ck).ownBlock = some b → w2.heap.size ≤ b) ∧ Keeps [] w2 wr) := ⟨hS, hown, hKq⟩
            clear hS hown hKq
            go_wp2
            go_roundw
            case rel =>
              refine ⟨k + 1, nb, ck, ao, c.remove ky, by omega, by go_num, ?_⟩
              rw [HST.out, HE2.out]
              exact ⟨rfl, (HJ.out.1.keeps HQ.out.2.2 (by simp) (by simp)).mono (by omega), hnb, HQ.out.1, fun b' hb' => by have := HQ.out.2.1 b' hb'; omega, HJ.out.2.2.1.trans HQ.out.2.2 (by simp)⟩
            case measure => simp [intOf]; omega
      · have hor : (o % 3 == 2) = false := beq_eq_false_iff_ne.2 h2
        have HSS : Hid (sstep 3 (-1) 2 (-1) cap M o ky vl = mput cap M ky vl) := by unfold sstep; rw [if_neg (by omega), if_neg h2, if_neg (by omega)]; rfl
        have CC := Put_held ky vl HB (by omega)
        clear HB
        go_wp2_with fail
        refine CC.mono ?_
        rintro e w2 ⟨rfl, nb2, H2, hb2, K2⟩
        clear CC
        have s2 := K2.size
        rw [World.size_alloc] at s2 hb2
        have p1 := K2.cell q1 (by simp; omega)
        have p2 := K2.cell q2 (by simp; omega)
        have SL2 := SB.keeps K2 (fun b' hb' => by have := HI.out.2.1 b' hb'; simp; omega)
        have KA := KB.trans K2 (cs := [w.heap.size, nb]) (bs := []) (by simp; omega)
        obtain ⟨ra, rc, rb, hv, hE, _⟩ := SL2.inRow
        obtain ⟨rfl, rfl⟩ : ma = ra ∧ mc = rc := by simpa using hv
        have HJ : Hid (Held w2 w.heap.size nb2 (c.put ky vl) (k + 1) cap (mput cap M ky vl) ∧ InRow w2 rb 0 ma M.length 2 (ecell (eK M) (eV M)) ∧ Keeps [] w w2 ∧ w2.cell? ⟨wr.heap.size, 1, none⟩ = some (.int .i64 ky) ∧ w.heap.size ≤ nb2) := ⟨H2, hE, KA, p1, by omega⟩
        have hMi : (M.length : Int) ≤ 512 := by omega
        have n2 := H2.nlt
        clear g0 g1 g2 K2 KA H2 SL2 hE hv q1 q2 SB KB h2 hb2
        generalize wr = wo0 at *
        by_cases hcp : 0 < cap
        · have HE2 : Hid (mput cap M ky vl = ((ky, vl) :: wo ky M).take cap.toNat) := mput_wo HI.out.2.2.2 cap (by omega) hMc ky vl
          go_wp2_with (at_builtin; refine wp_append1 _ rfl (.tmp 68) (.tmp 74) 29 rfl 26 i0 _ 2 16 Ydxm.underlying29 hi0 hz0 hz1 hz2 rfl (by omega) (.slice none 0 0) 0 (ecell (eK []) (eV [])) rfl ?hS w2.heap.size rfl #[.int .i64 ky, .int .i64 vl] 26 ?hB rfl ?h1 (by omega) (by omega) ?_)
          case hS => exact SliceAt.nil _ _ _ _
          case hB => first | exact heap_alloc_new _ _ | exact (Array.getElem?_eq_some_iff.1 (heap_alloc_new _ _)).2
          case h1 => first | exact ⟨rfl, rfl⟩ | (simp; exact ⟨rfl, rfl⟩)
          intro bq cq w3 hr2 hk2 hbb2
          have hr3 := RowAt.snocE (W := []) hr2
          have hk3 : Keeps [] w2 w3 := ((Keeps.refl [] w2).alloc _).trans hk2 (fun x hx => by simp [Value.ownBlock] at hx)
          have hb3 : w2.heap.size ≤ bq := by
            rcases hbb2 with h | h
            · simp [Value.ownBlock] at h
            · (try simp at h); omega
          have H3 : Hid (RowAt w3 bq 26 2 [(ky, vl)].length cq (ecell (eK [(ky, vl)]) (eV [(ky, vl)])) ∧ Keeps [] w2 w3) := ⟨hr3, hk3⟩
          clear hr2 hk2 hbb2 hr3 hk3 p1 p2
          go_wp2
          go_loopw [12, 78] (fun v j wq => ∃ t bk ck : Nat, ∃ Wk : List (Int × Int), t ≤ M.length ∧ j = .int .i64 t ∧ v = .slice (some ⟨bk, 0, none⟩) Wk.length ck ∧ Wk = ((ky, vl) :: wo ky (M.take t)).take cap.toNat ∧ RowAt wq bk 26 2 Wk.length ck (ecell (eK Wk) (eV Wk)) ∧ w2.heap.size ≤ bk ∧ Keeps [] w2 wq) (fun _ j _ => M.length - (intOf j).toNat)
          case atStart => exact ⟨0, bq, cq, [(ky, vl)], by omega, rfl, rfl, by rw [List.take_of_length_le (by simp [wo]; omega)]; simp [wo], H3.out.1, hb3, H3.out.2⟩
          case round =>
            obtain ⟨t, bk, ck, Wk, ht, rfl, rfl, hWk, hR, hbk, hKq⟩ := hrel
            have hqz := hKq.size
            have hWl : Wk.length ≤ t + 1 := by
              have := List.length_filter_le (fun e : Int × Int => decide (e.1 ≠ ky)) (M.take t)
              rw [List.length_take] at this
              rw [hWk, List.length_take, List.length_cons]; unfold wo; omega
            by_cases htl : t < M.length
            · have htl' : (t : Int) < (M.length : Int) := by omega
              have E1 := HJ.out.2.1.keeps hKq (by simp)
              obtain ⟨e0, e1⟩ := E1.ents t htl
              rw [Nat.zero_add] at e0 e1
              obtain rfl := E1.addr (by omega)
              have hbl := E1.lt (by omega)
              have p1 := hKq.cell HJ.out.2.2.2.1 (by simp)
              have hbs2 : wo0.heap.size < wr.heap.size := by omega
              have HQ : Hid (Wk = ((ky, vl) :: wo ky (M.take t)).take cap.toNat ∧ RowAt wr bk 26 2 Wk.length ck (ecell (eK Wk) (eV Wk)) ∧ Keeps [] w2 wr) := ⟨hWk, hR, hKq⟩
              clear hWk hR hKq E1
              by_cases heq : eK M t = ky
              · have HX : Hid (eK M t = ky) := heq
                rw [heq] at e0
                clear heq
                go_wp2
                go_roundw
                case rel => exact ⟨t + 1, bk, ck, Wk, by omega, by go_num, rfl, by rw [wo_take_no htl HX.out]; exact HQ.out.1, HQ.out.2.1.alloc _, hbk, HQ.out.2.2.alloc _⟩
                case measure => simp [intOf]; omega
              · have HX : Hid (¬ eK M t = ky) := heq
                have hbb : (eK M t != ky) = true := by rw [bne_iff_ne]; exact heq
                clear heq
                by_cases hsp : (Wk.length : Int) < cap
                · go_wp2_with (at_builtin; refine wp_append1 _ rfl (.tmp 93) (.tmp 95) 29 rfl 26 i0 _ 2 16 Ydxm.underlying29 hi0 hz0 hz1 hz2 rfl (by omega) (.slice (some ⟨bk, 0, none⟩) Wk.length ck) Wk.length (ecell (eK Wk) (eV Wk)) rfl ?hS (wr.heap.size + 1) rfl #[.int .i64 (eK M t), .int .i64 (eV M t)] 26 ?hB rfl ?h1 (by omega) (by omega) ?_)
                  case hS => exact ((HQ.out.2.1.alloc _).alloc _).sliceAt
                  case hB =>
                    have := heap_alloc_new (wr.alloc (.cells #[.int .i64 (eK M t), .int .i64 (eV M t)] 26)) (.cells #[.int .i64 (eK M t), .int .i64 (eV M t)] 26)
                    rw [World.size_alloc] at this
                    first | exact this | exact (Array.getElem?_eq_some_iff.1 this).2
                  case h1 => first | exact ⟨rfl, rfl⟩ | (simp; exact ⟨rfl, rfl⟩)
                  intro b' cap' w5 hr2 hk2 hbb2
                  have hr3 := hr2.snocE
                  have hk3 : Keeps [] w2 w5 := ((HQ.out.2.2.alloc _).alloc _).trans hk2 (fun x hx => .inr (by simp [Value.ownBlock] at hx; omega))
                  have hb3 : w2.heap.size ≤ b' := by
                    rcases hbb2 with h | h
                    · simp [Value.ownBlock] at h; omega
                    · (try simp at h); omega
                  have HN : Hid (RowAt w5 b' 26 2 (Wk ++ [(eK M t, eV M t)]).length cap' (ecell (eK (Wk ++ [(eK M t, eV M t)])) (eV (Wk ++ [(eK M t, eV M t)]))) ∧ Keeps [] w2 w5) := ⟨hr3, hk3⟩
                  clear hr2 hk2 hbb2 hr3 hk3 e0 e1 p1
                  go_wp2
                  go_roundw
                  case rel =>
                    refine ⟨t + 1, b', cap', Wk ++ [(eK M t, eV M t)], by omega, by go_num, by simp, ?_, HN.out.1, hb3, HN.out.2⟩
                    rw [wo_take_yes htl HX.out, ← List.cons_append, take_snoc_lt (by rw [← HQ.out.1]; omega), ← HQ.out.1]
                  case measure => simp [intOf]; omega
                · go_wp2
                  go_roundw
                  case rel =>
                    refine ⟨t + 1, bk, ck, Wk, by omega, by go_num, rfl, ?_, HQ.out.2.1.alloc _, hbk, HQ.out.2.2.alloc _⟩
                    rw [wo_take_yes htl HX.out, ← List.cons_append, take_snoc_ge (by rw [← HQ.out.1]; omega), ← HQ.out.1]
                  case measure => simp [intOf]; omega
            · have htl' : ¬ (t : Int) < (M.length : Int) := by omega
              obtain rfl : t = M.length := by omega
              rw [List.take_length, ← HE2.out] at hWk
              subst hWk
              have HQ : Hid (RowAt wr bk 26 2 (mput cap M ky vl).length ck (ecell (eK (mput cap M ky vl)) (eV (mput cap M ky vl))) ∧ Keeps [] w2 wr) := ⟨hR, hKq⟩
              clear hR hKq
              go_wp2
              go_roundw
              case rel =>
                refine ⟨k + 1, nb2, ck, some ⟨bk, 0, none⟩, c.put ky vl, by omega, by go_num, ?_⟩
                rw [HST.out, HSS.out]
                exact ⟨rfl, HJ.out.1.keeps HQ.out.2 (by simp) (by simp), HJ.out.2.2.2.2, HQ.out.1.sliceAt, fun b' hb' => by simp [Value.ownBlock] at hb'; omega, HJ.out.2.2.1.trans HQ.out.2 (by simp)⟩
              case measure => simp [intOf]; omega
        · have hnil : M = [] := List.eq_nil_of_length_eq_zero (by omega)
          have HE2 : Hid (mput cap M ky vl = []) := by unfold mput; rw [if_pos (by omega), hnil]; rfl
          rw [hnil]
          rw [HE2.out] at HJ
          clear hnil p1 p2
          go_wp2
          go_loopw [12, 78] (fun v j wq => v = .slice none 0 0 ∧ j = .int .i64 0 ∧ wq = w2) (fun _ _ _ => 0)
          case atStart => exact ⟨rfl, rfl, rfl⟩
          case round =>
            obtain ⟨rfl, rfl, rfl⟩ := hrel
            go_wp2
            go_roundw
            case rel =>
              refine ⟨k + 1, nb2, 0, none, c.put ky vl, by omega, by go_num, ?_⟩
              rw [HST.out, HSS.out, HE2.out]
              exact ⟨rfl, HJ.out.1, HJ.out.2.2.2.2, SliceAt.nil _ _ _ _, fun b' hb' => by simp [Value.ownBlock] at hb', HJ.out.2.2.1⟩
            case measure => simp [intOf]; omega
    · have hlt' : ¬ (k : Int) < (len : Int) := by omega
      obtain rfl : k = len := by omega
      generalize splay 3 (-1) 2 (-1) cap z [] k = M at *
      obtain ⟨ra, rc, rb, hv, hE, _⟩ := hSl.inRow
      obtain ⟨rfl, rfl⟩ : ma = ra ∧ mc = rc := by simpa using hv
      have hMi : (M.length : Int) ≤ 512 := by omega
      have hdis := nodup_distinct HC.nodup
      have HF : Hid ((∀ ky, (idx ky M = none ∧ c.find ky = -1) ∨ ∃ k x : Nat, idx ky M = some k ∧ c.find ky = x ∧ x < c.n ∧ (c.key x, c.val x) = (eK M k, eV M k)) ∧ Distinct M.length (eK M)) := ⟨HC.find, hdis⟩
      have HJ : Hid (Held wr w.heap.size nb c k cap M ∧ InRow wr rb 0 ma M.length 2 (ecell (eK M) (eV M)) ∧ Keeps [] w wr) := ⟨HC, hE, hK⟩
      have hnn := HC.n
      clear hv hSl hown hdis hE hK HC
      generalize wr = w2 at *
      go_wp2
      go_loopw [17, 102] (fun p j wq => ∃ (t : Nat) (bb : Bool), t ≤ M.length ∧ j = .int .i64 t ∧ p = .bool bb ∧ (bb = true ↔ ∃ s, s < t ∧ eK M s = key) ∧ Keeps [] w2 wq) (fun _ j _ => M.length - (intOf j).toNat)
      case atStart => exact ⟨0, false, by omega, rfl, rfl, ⟨fun h => absurd h (by simp), fun ⟨s, h, _⟩ => absurd h (by omega)⟩, Keeps.refl _ _⟩
      case round =>
        obtain ⟨t, bb, ht, rfl, rfl, hbb, hKq⟩ := hrel
        have hqz := hKq.size
        have HQ0 := HJ.out.1.keeps hKq (by simp) (by simp)
        by_cases htl : t < M.length
        · have htl' : (t : Int) < (M.length : Int) := by omega
          have E1 := HJ.out.2.1.keeps hKq (by simp)
          obtain ⟨e0, e1⟩ := E1.ents t htl
          rw [Nat.zero_add] at e0 e1
          obtain rfl := E1.addr (by omega)
          have hbl := E1.lt (by omega)
          obtain ⟨x, hfx, hxn, hkv⟩ : ∃ x : Nat, c.find (eK M t) = x ∧ x < c.n ∧ (c.key x, c.val x) = (eK M t, eV M t) := by
            have hi := idx_at htl rfl (fun j hj => HF.out.2 j t hj htl)
            rcases HF.out.1 (eK M t) with ⟨h1, _⟩ | ⟨k2, x, h1, h2, h3, h4⟩
            · rw [hi.1] at h1; simp at h1
            · rw [hi.1] at h1; simp at h1; subst h1; exact ⟨x, h2, h3, h4⟩
          have hk1 : c.key x = eK M t := congrArg Prod.fst hkv
          have hk2 : c.val x = eV M t := congrArg Prod.snd hkv
          have FD := Find_held (eK M t) (HQ0.alloc (.cells #[.int .i64 (eK M t), .int .i64 (eV M t)] 26)) (by omega)
          rw [hfx] at FD
          obtain ⟨hne, ncap, c0, RN⟩ := (HQ0.alloc (.cells #[.int .i64 (eK M t), .int .i64 (eV M t)] 26)).at_.row (by omega)
          obtain ⟨d0, d1, _, _, _⟩ := RN.nodes
          have n0 := d0 x hxn
          have n1 := d1 x hxn
          rw [hk1] at n0
          rw [hk2] at n1
          have hxi : (x : Int) < (c.n : Int) := by omega
          have hx0 : ¬ (x : Int) < 0 := by omega
          have hcq := HQ0.lt
          have hnq := HQ0.nlt
          have HQ : Hid ((bb = true ↔ ∃ s, s < t ∧ eK M s = key) ∧ Keeps [] w2 wr) := ⟨hbb, hKq⟩
          clear hbb hKq HQ0 E1 hfx hkv hk1 hk2 RN d0 d1
          by_cases heq : eK M t = key
          · have hbq : (eK M t == key) = true := by simpa using heq
            have HX : Hid (eK M t = key) := heq
            clear heq
            go_wp2_with fail
            refine FD.mono ?_
            rintro e w3 ⟨rfl, rfl⟩
            clear FD
            go_wp2
            go_quiet (fail)
            go_wp2
            go_roundw
            case rel => exact ⟨t + 1, true, by omega, by go_num, rfl, ⟨fun _ => ⟨t, by omega, HX.out⟩, fun _ => rfl⟩, (HQ.out.2.alloc _).drewN _⟩
            case measure => simp [intOf]; omega
          · have hbq : (eK M t == key) = false := beq_eq_false_iff_ne.2 heq
            have HX : Hid (¬ eK M t = key) := heq
            clear heq
            go_wp2_with fail
            refine FD.mono ?_
            rintro e w3 ⟨rfl, rfl⟩
            clear FD
            go_wp2
            go_quiet (fail)
            go_wp2
            go_roundw
            case rel =>
              refine ⟨t + 1, bb, by omega, by go_num, rfl, ⟨fun h => ?_, fun ⟨s, h1, h2⟩ => ?_⟩, (HQ.out.2.alloc _).drewN _⟩
              · obtain ⟨s, h1, h2⟩ := HQ.out.1.1 h; exact ⟨s, by omega, h2⟩
              · by_cases e : s = t
                · rw [e] at h2; exact absurd h2 HX.out
                · exact HQ.out.1.2 ⟨s, by omega, h2⟩
            case measure => simp [intOf]; omega
        · have htl' : ¬ (t : Int) < (M.length : Int) := by omega
          obtain rfl : t = M.length := by omega
          have hfb : (c.find key != -1) = bb := by
            rw [Bool.eq_iff_iff, hbb, bne_iff_ne]
            rcases HF.out.1 key with ⟨h1, h2⟩ | ⟨k2, x, h1, h2, h3, h4⟩
            · rw [h2]
              refine ⟨fun h => absurd rfl h, fun ⟨s, hs, he⟩ => ?_⟩
              have := idx_none_iff.1 h1 M[s] (List.getElem_mem hs)
              rw [← eKV_get hs] at this
              exact absurd he this
            · rw [h2]
              refine ⟨fun _ => ?_, fun _ => by omega⟩
              obtain ⟨e, he1, he2, _⟩ := idx_some h1
              obtain ⟨hk2, hk3⟩ := List.getElem?_eq_some_iff.1 he1
              exact ⟨k2, hk2, by rw [← he2, ← hk3, ← eKV_get hk2]⟩
          have FD := Find_held key HQ0 (by omega)
          clear hbb HQ0
          go_wp2_with fail
          refine FD.mono ?_
          rintro e w3 ⟨rfl, rfl⟩
          clear FD
          go_wp2
          go_ret
          exact ⟨by first | rfl | simp, (HJ.out.2.2.trans hKq (cs := []) (bs := []) (by simp)).below (Nat.le_refl _) (by simp)⟩
end Go.Proofs.Ymbrdx
