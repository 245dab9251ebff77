/- jslot and jbuild. -/
import Derived.Test.YmbrdxRot
import Derived.Deep.RegionWith
import Derived.Laws.NewBlocks
import Derived.Deep.DeepCutAuto
import Derived.Deep.CutBlock
import Derived.Deep.LoopGhost
namespace Go.Proofs.Ymbrdx
open Go.RowKit

/-- the slot of position p -/
def jsl (s T : Nat) (back : Bool) (p : Nat) : Nat := if back then T - 1 - rs (s % T) T p else rs (s % T) T p
/-- the position of slot x -/
def jpl (s T : Nat) (back : Bool) (x : Nat) : Nat := rp (s % T) T (if back then T - 1 - x else x)
theorem jsl_lt (s T : Nat) (back : Bool) (p : Nat) (h : 0 < T) : jsl s T back p < T := by
  have := rs_lt (s % T) T p h
  unfold jsl; split <;> omega
theorem jpl_jsl (s T : Nat) (back : Bool) (p : Nat) (h : p < T) : jpl s T back (jsl s T back p) = p := by
  have hl := rs_lt (s % T) T p (by omega)
  have hf : s % T < T := Nat.mod_lt _ (by omega)
  unfold jpl jsl
  cases back
  · simp; exact rp_rs _ _ _ hf h
  · simp; rw [show T - 1 - (T - 1 - rs (s % T) T p) = rs (s % T) T p by omega]; exact rp_rs _ _ _ hf h
theorem jsl_jpl (s T : Nat) (back : Bool) (x : Nat) (h : x < T) : jsl s T back (jpl s T back x) = x := by
  have hf : s % T < T := Nat.mod_lt _ (by omega)
  unfold jpl jsl
  cases back
  · simp; exact rs_rp _ _ _ hf h
  · simp; rw [rs_rp _ _ _ hf (by omega)]; omega

theorem jslot_at (w : World) (p T s : Nat) (back : Bool) (hp : p ≤ 100000) (h0 : 0 < T) (hT : T ≤ 100000) (hs : s ≤ 65535) :
    Calls Ydxm.prog 23 #[.int .i64 (p : Int), .int .i64 (T : Int), .int .u16 (s : Int), .bool back] w fun e w' => e = .returned (.int .i64 (jsl s T back p : Nat)) ∧ w' = w := by
  have h1 := rs_int s T p
  rw [Int.add_comm] at h1
  have hl := rs_lt (s % T) T p h0
  have hb0 : ((T : Int) == 0) = false := beq_eq_false_iff_ne.2 (by omega)
  have hp' : (p : Int) ≤ 100000 := by omega
  have hT' : (T : Int) ≤ 100000 := by omega
  have hs' : (s : Int) ≤ 65535 := by omega
  have h0' : (0 : Int) < (T : Int) := by omega
  cases back
  · have e : jsl s T false p = rs (s % T) T p := rfl
    rw [e]
    generalize rs (s % T) T p = r at *
    go_enter Ydxm.func23, Ydxm.ntmps23
    go_wp2
    go_ret
    refine ⟨?_, rfl⟩
    show Ending.returned (Value.int .i64 (((p : Int) + (s : Int)) % (T : Int))) = _
    rw [h1]
  · have e : ((jsl s T true p : Nat) : Int) = (T : Int) - 1 - (rs (s % T) T p : Int) := by
      show (((if true = true then T - 1 - rs (s % T) T p else rs (s % T) T p : Nat)) : Int) = _
      rw [if_pos rfl]; omega
    rw [e]
    generalize rs (s % T) T p = r at *
    have hl' : (r : Int) < (T : Int) := by omega
    go_enter Ydxm.func23, Ydxm.ntmps23
    go_wp2
    go_ret
    exact ⟨rfl, rfl⟩

/-- the fields by position -/
def jgk (n : Nat) (K : Nat → Int) (p : Nat) : Int := if p < n then K p else 0
def jgv (n : Nat) (p : Nat) : Int := if p < n then (p : Int) else 0
def jgp (s T n : Nat) (back : Bool) (p : Nat) : Int := if 0 < p ∧ p < n then (jsl s T back (p - 1) : Nat) else -1
def jgx (s T n : Nat) (back : Bool) (p : Nat) : Int := if p + 1 < T ∧ p + 1 ≠ n then (jsl s T back (p + 1) : Nat) else -1
/-- the cache when p positions are laid -/
def jC (s T n : Nat) (back : Bool) (K : Nat → Int) (hd tl fr : Int) (p : Nat) : Cs :=
  ⟨T, lay (jpl s T back) T (jgk n K) (part 0 fun _ => 0) p, lay (jpl s T back) T (jgv n) (part 0 fun _ => 0) p, lay (jpl s T back) T (jgp s T n back) (part 0 fun _ => 0) p, lay (jpl s T back) T (jgx s T n back) (part 0 fun _ => 0) p, hd, tl, fr, n, T⟩
theorem jC_step {w W : World} {cb nb s T n p : Nat} {back : Bool} {K : Nat → Int} {hd tl fr : Int} (h : CacheAt w cb nb (jC s T n back K hd tl fr p)) (hp : p < T) {x : Nat} (hx : x = jsl s T back p) {a0 a1 a2 a3 : Int} (h0 : a0 = jgk n K p) (h1 : a1 = jgv n p) (h2 : a2 = jgp s T n back p) (h3 : a3 = jgx s T n back p)
    (hW : W = ((((w.setCell ⟨nb, x * 4, none⟩ (.int .i64 a0)).setCell ⟨nb, x * 4 + 1, none⟩ (.int .i64 a1)).setCell ⟨nb, x * 4 + 2, none⟩ (.int .i64 a2)).setCell ⟨nb, x * 4 + 3, none⟩ (.int .i64 a3))) : CacheAt W cb nb (jC s T n back K hd tl fr (p + 1)) := by
  subst hW
  have hn : 0 < (jC s T n back K hd tl fr p).n := by show 0 < T; omega
  have := (((h.setKey hn x a0).setVal hn x a1).setPrev hn x a2).setNext hn x a3
  have hxT : x < T := by rw [hx]; exact jsl_lt _ _ _ _ (by omega)
  have hxp : jpl s T back x = p := by rw [hx]; exact jpl_jsl _ _ _ _ hp
  have hinj : ∀ y, y < T → jpl s T back y = p → y = x := fun y hy e => by rw [hx, ← e, jsl_jpl _ _ _ _ hy]
  subst h0 h1 h2 h3
  dsimp only [jC] at this
  rw [lay_step (jgk n K) _ hxT hxp hinj, lay_step (jgv n) _ hxT hxp hinj, lay_step (jgp s T n back) _ hxT hxp hinj, lay_step (jgx s T n back) _ hxT hxp hinj] at this
  exact this
theorem jC_ch (s T n : Nat) (back : Bool) (K : Nat → Int) (hd tl fr : Int) (hn : n ≤ T) (hh : hd = if 0 < n then (jsl s T back 0 : Int) else -1) (ht : tl = if 0 < n then (jsl s T back (n - 1) : Int) else -1) :
    Ch (jC s T n back K hd tl fr T) ((List.range n).map (jsl s T back)) ∧ ∀ j, j < n → (jC s T n back K hd tl fr T).key (jsl s T back j) = K j := by
  have hL : ((List.range n).map (jsl s T back)).length = n := by simp
  have hg : ∀ j, j < n → ((List.range n).map (jsl s T back))[j]? = some (jsl s T back j) := fun j hj => by simp [hj]
  have full : ∀ (g : Nat → Int) j, j < n → lay (jpl s T back) T g (part 0 fun _ => 0) T (jsl s T back j) = g j := fun g j hj => by
    rw [lay_full g _ (jsl_lt _ _ _ _ (by omega)) (by rw [jpl_jsl _ _ _ _ (by omega)]; omega), jpl_jsl _ _ _ _ (by omega)]
  refine ⟨lay_ch _ n (jsl s T back) (jpl s T back) (fun j hj => jsl_lt _ _ _ _ (by omega)) (fun j hj => jpl_jsl _ _ _ _ (by omega)) ?_ ?_ (fun j hj => ?_) (fun j hj => ?_) rfl, fun j hj => ?_⟩
  · show hd = _
    rw [hh]
    by_cases h : 0 < n
    · rw [if_pos h, nth_some (hg 0 h)]
    · rw [if_neg h, nth_ge (by omega)]
  · show tl = _
    rw [ht]
    unfold prv
    by_cases h : 0 < n
    · rw [if_pos h, if_neg (by omega), nth_some (hg (n - 1) (by omega))]
    · rw [if_neg h, if_pos (by omega)]
  · refine (full (jgx s T n back) j hj).trans ?_
    unfold jgx
    by_cases h : j + 1 < n
    · rw [if_pos ⟨by omega, by omega⟩, nth_some (hg (j + 1) h)]
    · rw [if_neg (by omega), nth_ge (by omega)]
  · refine (full (jgp s T n back) j hj).trans ?_
    unfold jgp prv
    by_cases h : 0 < j
    · rw [if_pos ⟨h, hj⟩, if_neg (by omega), nth_some (hg (j - 1) (by omega))]
    · rw [if_neg (by omega), if_pos (by omega)]
  · refine (full (jgk n K) j hj).trans ?_
    exact if_pos hj

theorem CacheAt.setNodes {w : World} {cb nb m ncap : Nat} {c : Cs} {k v p x : Nat → Int} (h : CacheAt w cb cb c) (r : RowAt w nb 28 4 m ncap (ncell k v p x)) (hne : nb ≠ cb) (hs : ∃ u, w.cell? ⟨cb, 0, none⟩ = some u) :
    CacheAt (w.setCell ⟨cb, 0, none⟩ (.slice (some ⟨nb, 0, none⟩) m ncap)) cb nb ⟨m, k, v, p, x, c.head, c.tail, c.free, c.size, c.cap⟩ := by
  obtain ⟨u, hu⟩ := hs
  have kk : ∀ i, i ≠ 0 → (w.setCell ⟨cb, 0, none⟩ (.slice (some ⟨nb, 0, none⟩) m ncap)).cell? ⟨cb, i, none⟩ = w.cell? ⟨cb, i, none⟩ := fun i hi => World.cell?_setCell_other _ _ _ _ (addr_ne_off (by omega))
  exact ⟨.inr ⟨hne, ncap, World.cell?_setCell_same _ _ _ hu, r.setOther _ _ hne⟩, by rw [kk _ (by omega)]; exact h.c1, by rw [kk _ (by omega)]; exact h.c2, by rw [kk _ (by omega)]; exact h.c3, by rw [kk _ (by omega)]; exact h.c4, by rw [kk _ (by omega)]; exact h.c5, fun o => by rw [World.frozen?_setCell]; exact h.fr o⟩

/-- what jbuild answers -/
def JPost (s T n : Nat) (back : Bool) (K : Nat → Int) (w : World) (e : Ending) (w' : World) : Prop :=
  ∃ cb nb c, e = .returned (.pointer (some ⟨cb, 0, none⟩)) ∧ CacheAt w' cb nb c ∧ Ch c ((List.range n).map (jsl s T back)) ∧ (∀ j, j < n → c.key (jsl s T back j) = K j) ∧ Keeps [] w w'

set_option maxRecDepth 100000 in
set_option maxHeartbeats 4000000 in
theorem jbuild_at (w : World) (b off : Nat) (a : Option Addr) (n cap f s : Nat) (back : Bool) (K : Nat → Int) (hE : InRow w b off a n 1 (fun j => .int .i64 (K j))) (hn : n ≤ 1024) (hf : f ≤ 8) (hs : s ≤ 65535) :
    Calls Ydxm.prog 22 #[.slice a n cap, .int .i64 (f : Int), .int .u16 (s : Int), .bool back] w (JPost s (n + f) n back K w) := by
  have hn' : (n : Int) ≤ 1024 := by omega
  have hf' : (f : Int) ≤ 8 := by omega
  have hs' : (s : Int) ≤ 65535 := by omega
  have hmk : ∀ W, (Instr.makeSlice 24 (.int .i64 ((n : Int) + (f : Int))) (.int .i64 ((n : Int) + (f : Int)))).run Ydxm.prog W = _ := make_nodes (n + f) (by omega)
  have HE : Hid _ := hE
  have JS : ∀ (W : World) (p : Nat), p < n + f → Calls Ydxm.prog 23 #[.int .i64 (p : Int), .int .i64 ((n : Int) + (f : Int)), .int .u16 (s : Int), .bool back] W fun e w' => e = .returned (.int .i64 (jsl s (n + f) back p : Nat)) ∧ w' = W := fun W p hp => jslot_at W p (n + f) s back (by omega) (by omega) (by omega) hs
  have HJS : Hid _ := JS
  have B0 := CacheAt.boxedNil w (fun _ => 0) (fun _ => 0) (fun _ => 0) (fun _ => 0) (-1) (-1) (-1) (n : Int) ((n : Int) + (f : Int))
  have c00 : (w.alloc (.cells #[.slice none 0 0, .int .i64 (-1), .int .i64 (-1), .int .i64 (-1), .int .i64 (n : Int), .int .i64 ((n : Int) + (f : Int))] 32)).cell? ⟨w.heap.size, 0, none⟩ = some (.slice none 0 0) := by simp
  have KB : Keeps [] w (w.alloc (.cells #[.slice none 0 0, .int .i64 (-1), .int .i64 (-1), .int .i64 (-1), .int .i64 (n : Int), .int .i64 ((n : Int) + (f : Int))] 32)) := (Keeps.refl _ _).alloc _
  have S1 : (w.alloc (.cells #[.slice none 0 0, .int .i64 (-1), .int .i64 (-1), .int .i64 (-1), .int .i64 (n : Int), .int .i64 ((n : Int) + (f : Int))] 32)).heap.size = w.heap.size + 1 := by simp
  have RN := RowAt.madeNodes (w.alloc (.cells #[.slice none 0 0, .int .i64 (-1), .int .i64 (-1), .int .i64 (-1), .int .i64 (n : Int), .int .i64 ((n : Int) + (f : Int))] 32)) 28 (n + f) (fun _ => 0) (fun _ => 0) (fun _ => 0) (fun _ => 0) (by unfold maxLen; omega)
  clear hE JS
  go_enter Ydxm.func22, Ydxm.ntmps22
  go_upto_region 4 with fail
  generalize w.alloc (.cells #[.slice none 0 0, .int .i64 (-1), .int .i64 (-1), .int .i64 (-1), .int .i64 (n : Int), .int .i64 ((n : Int) + (f : Int))] 32) = w1 at *
  have hw1 : w.heap.size < w1.heap.size := by omega
  have H2 := B0.alloc (.cells (madeCells #[.int .i64 0, .int .i64 0, .int .i64 0, .int .i64 0] ((n + f) * 4)) 28)
  have c02 : (w1.alloc (.cells (madeCells #[.int .i64 0, .int .i64 0, .int .i64 0, .int .i64 0] ((n + f) * 4)) 28)).cell? ⟨w.heap.size, 0, none⟩ = some (.slice none 0 0) := by
    rw [World.cell?_of_block (w := w1) (hold w1 _ _ hw1)]; exact c00
  have H3 := CacheAt.setNodes H2 RN (by omega) ⟨_, c02⟩
  have e3 : (⟨n + f, part 0 (fun _ => 0), part 0 (fun _ => 0), part 0 (fun _ => 0), part 0 (fun _ => 0), (-1), (-1), (-1), (n : Int), ((n : Int) + (f : Int))⟩ : Cs) = jC s (n + f) n back K (-1) (-1) (-1) 0 := by
    unfold jC; rw [lay_zero, lay_zero, lay_zero, lay_zero]; congr 1
  dsimp only at H3
  rw [e3, S1, World.setCell_alloc_past _ _ _ _ hw1] at H3
  have fr := B0.fr
  have KC : Keeps [] w ((w1.setCell ⟨w.heap.size, 0, none⟩ (.slice (some ⟨w.heap.size + 1, 0, none⟩) (n + f) (n + f))).alloc (.cells (madeCells #[.int .i64 0, .int .i64 0, .int .i64 0, .int .i64 0] ((n + f) * 4)) 28)) := (KB.setCell _ _ (.inr (Nat.le_refl _))).alloc _
  have HH3 : Hid _ := H3
  have HKC : Hid _ := KC
  clear H3 KC e3 H2 c02 B0 KB RN
  go_wp2
  go_loopg [12] (n + f) (fun g i wr => ∃ p : Nat, p + g = n + f ∧ i = .int .i64 p ∧ CacheAt wr w.heap.size (w.heap.size + 1) (jC s (n + f) n back K (-1) (-1) (-1) p) ∧ Keeps [] w wr)
  case atStart => exact ⟨0, Nat.zero_add _, rfl, HH3.out, HKC.out⟩
  case round =>
    clear HH3 HKC c00 fr S1 hmk hw1
    obtain ⟨p, hpg, rfl, hC, hK⟩ := hrel
    have hp : p ≤ n + f := by omega
    have HPG : Hid (p + gk = n + f) := hpg
    clear hpg
    by_cases hlt : p < n + f
    · have hlt' : (p : Int) < (n : Int) + (f : Int) := by omega
      obtain ⟨hne0, ncap, q0, R⟩ := hC.row (show 0 < n + f by omega)
      have q0' : wr.cell? ⟨w.heap.size, 0, none⟩ = some (.slice (some ⟨w.heap.size + 1, 0, none⟩) (n + f) ncap) := q0
      obtain ⟨x, hx⟩ : ∃ x, x = jsl s (n + f) back p := ⟨_, rfl⟩
      have hxl : x < n + f := by rw [hx]; exact jsl_lt _ _ _ _ (by omega)
      have hxl' : (x : Int) < (n : Int) + (f : Int) := by omega
      obtain ⟨x0, x1, x2, x3, fz⟩ := R.nodes
      have z0 := x0 x hxl
      have z1 := x1 x hxl
      have z2 := x2 x hxl
      have z3 := x3 x hxl
      have hcl := hC.lt
      have hnl := hC.nlt
      have JP := fun W => HJS.out W p hlt
      rw [← hx] at JP
      have E1 := HE.out.keeps hK (by simp)
      have g0 : p < n → wr.cell? ⟨b, off + p, none⟩ = some (.int .i64 (K p)) := fun h => E1.cell p (by omega)
      have ha : 0 < n → a = some ⟨b, off, none⟩ := E1.addr
      have hbl : 0 < n → b < wr.heap.size := E1.lt
      have HX : Hid (x = jsl s (n + f) back p) := hx
      have HR : Hid (CacheAt wr w.heap.size (w.heap.size + 1) (jC s (n + f) n back K (-1) (-1) (-1) p) ∧ Keeps [] w wr) := ⟨hC, hK⟩
      have hbw : 0 < n → b < w.heap.size := HE.out.lt
      have HJP : Hid _ := JP
      have egk : jgk n K p = if p < n then K p else 0 := rfl
      have egv : jgv n p = if p < n then (p : Int) else 0 := rfl
      have egp : jgp s (n + f) n back p = if 0 < p ∧ p < n then (jsl s (n + f) back (p - 1) : Int) else -1 := rfl
      have egx : jgx s (n + f) n back p = if p + 1 < n + f ∧ p + 1 ≠ n then (jsl s (n + f) back (p + 1) : Int) else -1 := rfl
      clear hC hK q0 R hx x0 x1 x2 x3 E1 JP
      have HGG : Hid _ := And.intro egk (And.intro egv (And.intro egp egx))
      clear egk egv egp egx
      obtain ⟨GK, hGK⟩ : ∃ z, z = jgk n K p := ⟨_, rfl⟩
      obtain ⟨GV, hGV⟩ : ∃ z, z = jgv n p := ⟨_, rfl⟩
      obtain ⟨GP, hGP⟩ : ∃ z, z = jgp s (n + f) n back p := ⟨_, rfl⟩
      obtain ⟨GX, hGX⟩ : ∃ z, z = jgx s (n + f) n back p := ⟨_, rfl⟩
      rw [← hGK, ← hGV, ← hGP, ← hGX] at HGG
      have HDF : Hid (GK = jgk n K p ∧ GV = jgv n p ∧ GP = jgp s (n + f) n back p ∧ GX = jgx s (n + f) n back p) := ⟨hGK, hGV, hGP, hGX⟩
      clear hGK hGV hGP hGX
      have HG0 : Hid _ := g0
      have HAA : Hid _ := And.intro ha (And.intro hbl hbw)
      clear g0 ha hbl hbw
      go_upto_region 10 with fail
      go_cut [41] (fun c wx => c = .bool (decide (0 < p ∧ p < n)) ∧ wr = wx)
      case first =>
        by_cases h0 : 0 < p
        · have h0' : (0 : Int) < (p : Int) := by omega
          by_cases h1 : p < n
          · have h1' : (p : Int) < (n : Int) := by omega
            go_wp2
            go_meet
            exact ⟨by rw [decide_eq_true (p := 0 < p ∧ p < n) ⟨h0, h1⟩], rfl⟩
          · have h1' : ¬ (p : Int) < (n : Int) := by omega
            go_wp2
            go_meet
            exact ⟨by rw [decide_eq_false (p := 0 < p ∧ p < n) (fun h => h1 h.2)], rfl⟩
        · have h0' : ¬ (0 : Int) < (p : Int) := by omega
          go_wp2
          go_meet
          exact ⟨by rw [decide_eq_false (p := 0 < p ∧ p < n) (fun h => h0 h.1)], rfl⟩
      case rest =>
        obtain ⟨rfl, hw⟩ := hcut
        subst hw
        obtain ⟨B1, hB1⟩ : ∃ B1, B1 = decide (0 < p ∧ p < n) := ⟨_, rfl⟩
        rw [← hB1]
        have HB1 : Hid (B1 = decide (0 < p ∧ p < n)) := hB1
        clear hB1
        go_upto_if 41 with fail
        go_cut [13] (fun v wx => v = .int .i64 GP ∧ wr = wx)
        case first =>
          cases B1
          · have hc : ¬ (0 < p ∧ p < n) := of_decide_eq_false HB1.out.symm
            go_wp2
            go_meet
            exact ⟨by rw [HGG.out.2.2.1, if_neg hc], rfl⟩
          · have hc : 0 < p ∧ p < n := of_decide_eq_true HB1.out.symm
            have JQ := fun W => HJS.out W (p - 1) (by omega)
            rw [show ((p - 1 : Nat) : Int) = (p : Int) - 1 by omega] at JQ
            have HC : Hid (0 < p ∧ p < n) := hc
            clear hc
            go_wp2_with fail
            refine (JQ _).mono ?_
            rintro e w2 ⟨rfl, rfl⟩
            go_wp2
            go_meet
            exact ⟨by rw [HGG.out.2.2.1, if_pos HC.out], rfl⟩
        case rest =>
          obtain ⟨rfl, hw⟩ := hcut
          subst hw
          clear HB1
          go_upto_region 12 with fail
          go_cut [57] (fun c wx => c = .bool (decide (p + 1 < n + f ∧ p + 1 ≠ n)) ∧ wr = wx)
          case first =>
            by_cases h0 : p + 1 < n + f
            · have h0' : (p : Int) + 1 < (n : Int) + (f : Int) := by omega
              by_cases h1 : p + 1 = n
              · have h1' : ((p : Int) + 1 != (n : Int)) = false := by rw [show (p : Int) + 1 = (n : Int) by omega]; simp
                have H1 : Hid (p + 1 = n) := h1
                clear h1
                go_wp2
                go_meet
                exact ⟨by rw [decide_eq_false (p := p + 1 < n + f ∧ p + 1 ≠ n) (fun h => h.2 H1.out)], rfl⟩
              · have h1' : ((p : Int) + 1 != (n : Int)) = true := by rw [bne_iff_ne]; omega
                go_wp2
                go_meet
                exact ⟨by rw [decide_eq_true (p := p + 1 < n + f ∧ p + 1 ≠ n) ⟨h0, h1⟩], rfl⟩
            · have h0' : ¬ (p : Int) + 1 < (n : Int) + (f : Int) := by omega
              go_wp2
              go_meet
              exact ⟨by rw [decide_eq_false (p := p + 1 < n + f ∧ p + 1 ≠ n) (fun h => h0 h.1)], rfl⟩
          case rest =>
            obtain ⟨rfl, hw⟩ := hcut
            subst hw
            obtain ⟨B1, hB1⟩ : ∃ B1, B1 = decide (p + 1 < n + f ∧ p + 1 ≠ n) := ⟨_, rfl⟩
            rw [← hB1]
            have HB1 : Hid (B1 = decide (p + 1 < n + f ∧ p + 1 ≠ n)) := hB1
            clear hB1
            go_upto_if 57 with fail
            go_cut [14] (fun v wx => v = .int .i64 GX ∧ wr = wx)
            case first =>
              cases B1
              · have hc : ¬ (p + 1 < n + f ∧ p + 1 ≠ n) := of_decide_eq_false HB1.out.symm
                go_wp2
                go_meet
                exact ⟨by rw [HGG.out.2.2.2, if_neg hc], rfl⟩
              · have hc : p + 1 < n + f ∧ p + 1 ≠ n := of_decide_eq_true HB1.out.symm
                have JQ := fun W => HJS.out W (p + 1) (by omega)
                rw [show ((p + 1 : Nat) : Int) = (p : Int) + 1 by omega] at JQ
                have HC : Hid (p + 1 < n + f ∧ p + 1 ≠ n) := hc
                clear hc
                go_wp2_with fail
                refine (JQ _).mono ?_
                rintro e w2 ⟨rfl, rfl⟩
                go_wp2
                go_meet
                exact ⟨by rw [HGG.out.2.2.2, if_pos HC.out], rfl⟩
            case rest =>
              obtain ⟨rfl, hw⟩ := hcut
              subst hw
              clear HB1
              go_upto_if 66 with fail
              go_cut [66] (fun _ wx => wx = wr.alloc (.cells #[.int .i64 GK, .int .i64 GV] 26))
              case first =>
                by_cases h1 : p < n
                · have h1' : (p : Int) < (n : Int) := by omega
                  obtain rfl := HAA.out.1 (by omega)
                  have g1 := HG0.out h1
                  have hb1 := HAA.out.2.1 (by omega)
                  have HC : Hid (p < n) := h1
                  clear h1
                  go_wp2
                  go_meet
                  rw [HGG.out.1, HGG.out.2.1, if_pos HC.out, if_pos HC.out]
                · have h1' : ¬ (p : Int) < (n : Int) := by omega
                  go_wp2
                  go_meet
                  rw [HGG.out.1, HGG.out.2.1, if_neg h1, if_neg h1]
              case rest =>
                subst hcut
                go_wp2_with fail
                go_region_with (go_at_call 23; refine (HJP.out _).mono ?_; rintro e w3 ⟨rfl, rfl⟩)
                all_goals
                  go_wp2
                  go_roundg (gk - 1)
                  case measure => have := HPG.out; omega
                  case rel =>
                    have hpg := HPG.out
                    exact ⟨p + 1, by omega, by go_num, ((jC_step HR.out.1 hlt HX.out HDF.out.1 HDF.out.2.1 HDF.out.2.2.1 HDF.out.2.2.2 rfl).alloc _).drew, (((((HR.out.2.setCell _ _ (.inr (Nat.le_succ _))).setCell _ _ (.inr (Nat.le_succ _))).setCell _ _ (.inr (Nat.le_succ _))).setCell _ _ (.inr (Nat.le_succ _))).alloc _).drew⟩
    · have hlt' : ¬ (p : Int) < (n : Int) + (f : Int) := by omega
      obtain rfl : p = n + f := by omega
      have fc := hC.fr
      have q1 := hC.c1
      have q2 := hC.c2
      have q3 := hC.c3
      have HR : Hid (CacheAt wr w.heap.size (w.heap.size + 1) (jC s (n + f) n back K (-1) (-1) (-1) (n + f)) ∧ Keeps [] w wr) := ⟨hC, hK⟩
      clear hC hK
      by_cases h0 : 0 < n
      · have h0' : (0 : Int) < (n : Int) := by omega
        have J0 := fun W => HJS.out W 0 (by omega)
        rw [show ((0 : Nat) : Int) = 0 from rfl] at J0
        have J1 := fun W => HJS.out W (n - 1) (by omega)
        rw [show ((n - 1 : Nat) : Int) = (n : Int) - 1 by omega] at J1
        have CC := fun fr => jC_ch s (n + f) n back K (jsl s (n + f) back 0 : Nat) (jsl s (n + f) back (n - 1) : Nat) fr (by omega) (if_pos h0).symm (if_pos h0).symm
        have HCC : Hid _ := CC
        clear CC
        by_cases h1 : 0 < f
        · have h1' : (0 : Int) < (f : Int) := by omega
          have J2 := fun W => HJS.out W n (by omega)
          go_wp2_with fail
          refine (J0 _).mono ?_
          rintro e w2 ⟨rfl, rfl⟩
          go_wp2_with fail
          refine (J1 _).mono ?_
          rintro e w3 ⟨rfl, rfl⟩
          go_wp2_with fail
          refine (J2 _).mono ?_
          rintro e w4 ⟨rfl, rfl⟩
          go_wp2
          go_ret
          exact ⟨w.heap.size, w.heap.size + 1, _, rfl, ((HR.out.1.setHead _).setTail _).setFree _, (HCC.out _).1, (HCC.out _).2, ((HR.out.2.setCell _ _ (.inr (Nat.le_refl _))).setCell _ _ (.inr (Nat.le_refl _))).setCell _ _ (.inr (Nat.le_refl _))⟩
        · have h1' : ¬ (0 : Int) < (f : Int) := by omega
          go_wp2_with fail
          refine (J0 _).mono ?_
          rintro e w2 ⟨rfl, rfl⟩
          go_wp2_with fail
          refine (J1 _).mono ?_
          rintro e w3 ⟨rfl, rfl⟩
          go_wp2
          go_ret
          exact ⟨w.heap.size, w.heap.size + 1, _, rfl, (HR.out.1.setHead _).setTail _, (HCC.out _).1, (HCC.out _).2, (HR.out.2.setCell _ _ (.inr (Nat.le_refl _))).setCell _ _ (.inr (Nat.le_refl _))⟩
      · have h0' : ¬ (0 : Int) < (n : Int) := by omega
        have CC := fun fr => jC_ch s (n + f) n back K (-1) (-1) fr (by omega) (if_neg h0).symm (if_neg h0).symm
        have HCC : Hid _ := CC
        clear CC
        by_cases h1 : 0 < f
        · have h1' : (0 : Int) < (f : Int) := by omega
          have J2 := fun W => HJS.out W n (by omega)
          go_wp2_with fail
          refine (J2 _).mono ?_
          rintro e w4 ⟨rfl, rfl⟩
          go_wp2
          go_ret
          exact ⟨w.heap.size, w.heap.size + 1, _, rfl, HR.out.1.setFree _, (HCC.out _).1, (HCC.out _).2, HR.out.2.setCell _ _ (.inr (Nat.le_refl _))⟩
        · have h1' : ¬ (0 : Int) < (f : Int) := by omega
          go_wp2
          go_ret
          exact ⟨w.heap.size, w.heap.size + 1, _, rfl, HR.out.1, (HCC.out _).1, (HCC.out _).2, HR.out.2⟩
end Go.Proofs.Ymbrdx
