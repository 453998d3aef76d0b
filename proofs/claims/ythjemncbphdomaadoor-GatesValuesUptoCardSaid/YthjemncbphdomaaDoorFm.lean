/- Remainders within sums and products. -/
namespace Go.Att
theorem e_idem (a p : Int) : a % p % p = a % p := Int.emod_emod_of_dvd _ (Int.dvd_refl _)
theorem ea_l (p a b : Int) : (a % p + b) % p = (a + b) % p := by rw [Int.add_emod, e_idem, ← Int.add_emod]
theorem ea_r (p a b : Int) : (a + b % p) % p = (a + b) % p := by rw [Int.add_emod, e_idem, ← Int.add_emod]
theorem es_l (p a b : Int) : (a % p - b) % p = (a - b) % p := by rw [Int.sub_emod, e_idem, ← Int.sub_emod]
theorem es_r (p a b : Int) : (a - b % p) % p = (a - b) % p := by rw [Int.sub_emod, e_idem, ← Int.sub_emod]
theorem em_l (p a b : Int) : (a % p * b) % p = (a * b) % p := by rw [Int.mul_emod, e_idem, ← Int.mul_emod]
theorem em_r (p a b : Int) : (a * (b % p)) % p = (a * b) % p := by rw [Int.mul_emod, e_idem, ← Int.mul_emod]
end Go.Att
