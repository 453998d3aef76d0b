/- RulesBroken: the document's side: what any rule says. -/
import Derived.Test.YtnmjaddhbecopaaGreatDoorKf
import Derived.Test.YtnmjaddhbecopaaGreatDoorZx6
namespace Go.Proofs.YtnmjaddhbecopaaGreatDoor
open Go.RowKit Go.Att
section
variable {w : World} {q : Nat} {p sz out : Int} {cd : List In4} {lv rv nv : Value} {r n : List Int}
theorem wrule_any (h : WAt w q p sz out cd lv rv nv r n) (hs : cd.length ≤ 1048576) (hl : 1 ≤ cd.length) (i : Nat) (hi : i < cd.length + 26) : Calls Tryz.prog 152 #[.pointer (some ⟨q, 0, none⟩), .int .i64 i] w fun e w' => e = .returned (.int .i64 (ruleD p sz out cd r n i)) ∧ Ext w w' := by
  by_cases hlo : i < cd.length
  · exact wrule_lo h hs i hlo
  · obtain ⟨t, rfl⟩ := Nat.exists_eq_add_of_le (show cd.length ≤ i by omega)
    have e : ruleD p sz out cd r n (cd.length + t) = tailD p sz out cd r n t := by rw [ruleD, if_neg hlo, Nat.add_sub_cancel_left]
    rw [e]
    have ht : t < 26 := by omega
    clear e hlo hi
    have hx : (((cd.length + t : Nat)) : Int) = cd.length + t := by omega
    generalize ((cd.length + t : Nat) : Int) = x at *
    rcases t with _ | t
    · exact wrule_0 h hs hl x (by simpa using hx)
    rcases t with _ | t
    · exact wrule_1 h hs hl x (by simpa using hx)
    rcases t with _ | t
    · exact wrule_2 h hs hl x (by simpa using hx)
    rcases t with _ | t
    · exact wrule_3 h hs hl x (by simpa using hx)
    rcases t with _ | t
    · exact wrule_4 h hs x (by simpa using hx)
    rcases t with _ | t
    · exact wrule_5 h hs hl x (by simpa using hx)
    rcases t with _ | t
    · exact wrule_6 h hs hl x (by simpa using hx)
    rcases t with _ | t
    · exact wrule_7 h hs hl x (by simpa using hx)
    rcases t with _ | t
    · exact wrule_8 h hs hl x (by simpa using hx)
    rcases t with _ | t
    · exact wrule_9 h hs hl x (by simpa using hx)
    rcases t with _ | t
    · exact wrule_10 h hs hl x (by simpa using hx)
    rcases t with _ | t
    · exact wrule_11 h hs hl x (by simpa using hx)
    rcases t with _ | t
    · exact wrule_12 h hs hl x (by simpa using hx)
    rcases t with _ | t
    · exact wrule_13 h hs hl x (by simpa using hx)
    rcases t with _ | t
    · exact wrule_14 h hs hl x (by simpa using hx)
    rcases t with _ | t
    · exact wrule_15 h hs hl x (by simpa using hx)
    rcases t with _ | t
    · exact wrule_16 h hs hl x (by simpa using hx)
    rcases t with _ | t
    · exact wrule_17 h hs hl x (by simpa using hx)
    rcases t with _ | t
    · exact wrule_18 h hs hl x (by simpa using hx)
    rcases t with _ | t
    · exact wrule_19 h hs hl x (by simpa using hx)
    rcases t with _ | t
    · exact wrule_20 h hs hl x (by simpa using hx)
    rcases t with _ | t
    · exact wrule_21 h hs hl x (by simpa using hx)
    rcases t with _ | t
    · exact wrule_22 h hs hl x (by simpa using hx)
    rcases t with _ | t
    · exact wrule_23 h hs hl x (by simpa using hx)
    rcases t with _ | t
    · exact wrule_24 h hs hl x (by simpa using hx)
    rcases t with _ | t
    · exact wrule_25 h hs hl x (by simpa using hx)
    omega
end
end Go.Proofs.YtnmjaddhbecopaaGreatDoor
