/- Small facts on lists of entries. -/
import Derived.Test.YmbrdvPlain3
namespace Go.Proofs.Ymbrdv
open Go.RowKit

theorem nodup_distinct {M : List (Int × Int)} (h : (M.map Prod.fst).Nodup) : Distinct M.length (eK M) := by
  intro i j h1 h2 he
  refine List.pairwise_iff_getElem.1 h i j (by simp; omega) (by simp; omega) h1 ?_
  simp only [List.getElem_map]
  unfold eK at he
  rw [List.getD_eq_getElem?_getD, List.getD_eq_getElem?_getD, List.getElem?_eq_getElem (by omega), List.getElem?_eq_getElem h2] at he
  exact he
theorem elist_eKV (M : List (Int × Int)) : elist M.length (eK M) (eV M) = M :=
  list_ext_kv (elist_length _ _ _) fun j hj => elist_kv _ _ _ j (by rwa [elist_length] at hj)
theorem wo_take_yes {key : Int} {M : List (Int × Int)} {k : Nat} (hk : k < M.length) (h : eK M k ≠ key) : wo key (M.take (k + 1)) = wo key (M.take k) ++ [(eK M k, eV M k)] := by
  have he : (eK M k, eV M k) = M[k] := by unfold eK eV; simp [List.getD, hk]
  rw [List.take_succ_eq_append_getElem hk, wo_append, ← he, wo_cons_other (e := (eK M k, eV M k)) h, wo_nil]
theorem wo_take_no {key : Int} {M : List (Int × Int)} {k : Nat} (hk : k < M.length) (h : eK M k = key) : wo key (M.take (k + 1)) = wo key (M.take k) := by
  have he : (eK M k, eV M k) = M[k] := by unfold eK eV; simp [List.getD, hk]
  rw [List.take_succ_eq_append_getElem hk, wo_append, ← he, wo_cons_same (e := (eK M k, eV M k)) h, wo_nil, List.append_nil]
theorem eKV_get {M : List (Int × Int)} {k : Nat} (hk : k < M.length) : (eK M k, eV M k) = M[k] := by unfold eK eV; simp [List.getD, hk]
end Go.Proofs.Ymbrdv
