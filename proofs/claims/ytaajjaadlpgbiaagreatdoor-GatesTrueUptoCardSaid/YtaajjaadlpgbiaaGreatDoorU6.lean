/- Words that are no codewords show: plain laws. -/
import Derived.Test.YtaajjaadlpgbiaaGreatDoorZx9
namespace Go.Att
theorem mixS_sum (p r : Int) (L : List (List Int)) (m k : Nat) : mixS p r L m k % p = sumN (fun i => r ^ i * nth (nthL L i) k) m % p := by
  induction m with
  | zero => rfl
  | succ m ih =>
    simp only [mixS, sumN, fadd, fmul, fpow, e_idem]
    refine madd ih ?_
    rw [em_l, e_idem]
/-- A word's coefficient at a place, but for what it is taken modulo. -/
def cz (K : Nat) (g : Int) (wt : Nat → Int) (word : List Int) (j : Nat) : Int := sprZ K (nth word) g j * wt j
theorem mix_cz (p r : Int) (L : List (List Int)) (K : Nat) (g : Int) (wt : Nat → Int) (h0 : (nthL L 0).length = 2 ^ K) (j : Nat) (hj : j < 2 ^ K) :
    cz K g wt (mixL p r L) j % p = sumN (fun i => cz K g wt (nthL L i) j * r ^ i) L.length % p := by
  unfold cz
  have h1 : sprZ K (nth (mixL p r L)) g j % p = sprZ K (fun k => sumN (fun i => r ^ i * nth (nthL L i) k) L.length) g j % p := sprZ_mod p K rfl (fun k hk => by
    unfold mixL
    rw [h0, nth_map_range _ _ _ hk]
    exact mixS_sum p r L L.length k) j hj
  rw [mmul h1 rfl, sprZ_sum K (fun i => nth (nthL L i)) (fun i => r ^ i) g L.length j, Int.mul_comm, sumN_mul]
  congr 1
  exact sumN_congr _ fun i _ => by grind
/-- Is it a codeword? -/
def CW (p : Int) (K k : Nat) (g : Int) (wt : Nat → Int) (word : List Int) : Prop := ∀ j, k ≤ j → j < 2 ^ K → cz K g wt word j % p = 0
theorem keeps_all (p r : Int) (L : List (List Int)) (K k : Nat) (g : Int) (wt : Nat → Int) (h0 : (nthL L 0).length = 2 ^ K) (h : ∀ i, i < L.length → CW p K k g wt (nthL L i)) : CW p K k g wt (mixL p r L) := by
  intro j hk hj
  rw [mix_cz p r L K g wt h0 j hj]
  rw [sumN_mod p (g := fun _ => 0) L.length (fun i hi => by rw [mmul ((h i hi j hk hj).trans (Int.zero_emod p).symm) rfl]; simp)]
  rw [sumN_zero]; rfl
theorem keeps_some {p : Int} (hp : Pr p) (L : List (List Int)) (K k : Nat) (g : Int) (wt : Nat → Int) (h0 : (nthL L 0).length = 2 ^ K) {i0 : Nat} (hi0 : i0 < L.length) (h : ¬ CW p K k g wt (nthL L i0)) (P : Nat → Bool)
    (hP : ∀ r : Nat, P r = true → CW p K k g wt (mixL p (r : Int) L)) : cntN P p.toNat < L.length := by
  have hp2 := hp.two
  have h1 : ∃ j, k ≤ j ∧ j < 2 ^ K ∧ ¬ cz K g wt (nthL L i0) j % p = 0 := by
    apply Classical.byContradiction
    intro hc
    exact h fun j hk hj => Classical.byContradiction fun hn => hc ⟨j, hk, hj, hn⟩
  obtain ⟨j, hk, hj, hn⟩ := h1
  have hq : ((List.range L.length).map fun i => cz K g wt (nthL L i) j).length = L.length := by simp
  rw [← hq]
  refine few_of hp _ ⟨cz K g wt (nthL L i0) j, List.mem_map.2 ⟨i0, List.mem_range.2 hi0, rfl⟩, fun hd => hn (Int.emod_eq_zero_of_dvd hd)⟩ P p.toNat (by omega) fun r hr hPr => ?_
  have := hP r hPr j hk hj
  rw [mix_cz p r L K g wt h0 j hj] at this
  rw [ev_range]; exact this
end Go.Att
