/- A text's reader, the program's side: what signs join, from the left: contracts. A text's reader, the program's side: what stands in brackets, with commas between: contract for any closure. -/
import Derived.Test.YtgnomhbbbcfehaaGreatDoorZx4
import Derived.Handy
section
namespace Go.Att
def Prog1 {α : Type} (L : List UInt8) (f : Nat → Ps α) : Prop := ∀ i x j, i ≤ L.length → f i = .ok x j → i < j
section
variable {L : List UInt8}
theorem prog_name : Prog1 L (nameT L) := fun i x j _ h => by
  unfold nameT at h
  split at h
  · cases h
  · rename_i h1
    split at h
    · cases h
    · cases h
      simp only [not_or, Decidable.not_not] at h1
      exact (nxtN_gt L i (by rw [h1.1]; decide)).1
theorem prog_part {k : Nat} {P E : Nat → Ps Tr} (h1 : Mono L P) (h2 : Mono L E) : Prog1 L (partT L k P E) := fun i x j hi h => by
  have g2 := nxtN_le L i hi
  unfold partT at h
  split at h
  · rename_i hk
    have g := (nxtN_gt L i (by rw [hk]; decide)).1
    split at h
    · cases h; exact g
    · cases h
  · split at h
    · rename_i hk
      have g := (isT_gt hk).1
      obtain ⟨y, m, h3, h⟩ := bind_ok.mp h
      obtain ⟨_, rfl⟩ := enter_ok.mp h3
      obtain ⟨y, m, h4, h⟩ := bind_ok.mp h
      obtain ⟨a1, a2⟩ := h2 _ _ _ g2 h4
      obtain ⟨y, m, h5, h⟩ := bind_ok.mp h
      obtain ⟨a3, a4⟩ := mono_must _ _ _ _ a2 h5
      cases h
      omega
    · split at h
      · rename_i hk
        have g := (isT_gt hk).1
        obtain ⟨y, m, h3, h⟩ := bind_ok.mp h
        obtain ⟨_, rfl⟩ := enter_ok.mp h3
        obtain ⟨y, m, h4, h⟩ := bind_ok.mp h
        obtain ⟨a1, a2⟩ := h1 _ _ _ g2 h4
        cases h
        omega
      · obtain ⟨y, m, h3, h⟩ := bind_ok.mp h
        have g := prog_name _ _ _ hi h3
        obtain ⟨a1, a2⟩ := mono_name _ _ _ hi h3
        split at h
        · obtain ⟨y, m, h4, h⟩ := bind_ok.mp h
          obtain ⟨a3, a4⟩ := mono_list h2 _ _ _ _ a2 h4
          cases h
          omega
        · cases h; exact g
theorem prog_expr {k : Nat} {S E S0 : Nat → Ps Tr} (h1 : Mono L S) (h2 : Mono L E) (h3 : Mono L S0) (h4 : Prog1 L S0) : Prog1 L (exprT L k S E S0) := fun i x j hi h => by
  have g2 := nxtN_le L i hi
  unfold exprT at h
  split at h
  · rename_i hk
    have g := (isT_gt hk).1
    obtain ⟨_, m, e1, h⟩ := bind_ok.mp h
    obtain ⟨_, rfl⟩ := enter_ok.mp e1
    obtain ⟨_, m, e1, h⟩ := bind_ok.mp h
    obtain ⟨a1, a2⟩ := mono_name _ _ _ g2 e1
    obtain ⟨_, m, e1, h⟩ := bind_ok.mp h
    obtain ⟨a3, a4⟩ := mono_must _ _ _ _ a2 e1
    obtain ⟨_, m, e1, h⟩ := bind_ok.mp h
    obtain ⟨a5, a6⟩ := h2 _ _ _ a4 e1
    obtain ⟨_, m, e1, h⟩ := bind_ok.mp h
    obtain ⟨a7, a8⟩ := mono_must _ _ _ _ a6 e1
    obtain ⟨_, m, e1, h⟩ := bind_ok.mp h
    obtain ⟨a9, a10⟩ := h2 _ _ _ a8 e1
    cases h
    omega
  · split at h
    · rename_i hk
      have g := (isT_gt hk).1
      obtain ⟨_, m, e1, h⟩ := bind_ok.mp h
      obtain ⟨_, rfl⟩ := enter_ok.mp e1
      obtain ⟨_, m, e1, h⟩ := bind_ok.mp h
      obtain ⟨a1, a2⟩ := h1 _ _ _ g2 e1
      obtain ⟨_, m, e1, h⟩ := bind_ok.mp h
      obtain ⟨a3, a4⟩ := mono_must _ _ _ _ a2 e1
      obtain ⟨_, m, e1, h⟩ := bind_ok.mp h
      obtain ⟨a5, a6⟩ := h1 _ _ _ a4 e1
      obtain ⟨_, m, e1, h⟩ := bind_ok.mp h
      obtain ⟨a7, a8⟩ := mono_must _ _ _ _ a6 e1
      obtain ⟨_, m, e1, h⟩ := bind_ok.mp h
      obtain ⟨a9, a10⟩ := h2 _ _ _ a8 e1
      cases h
      omega
    · split at h
      · rename_i hk
        have g := (isT_gt hk).1
        obtain ⟨_, m, e1, h⟩ := bind_ok.mp h
        obtain ⟨_, rfl⟩ := enter_ok.mp e1
        obtain ⟨_, m, e1, h⟩ := bind_ok.mp h
        obtain ⟨a1, a2⟩ := h2 _ _ _ g2 e1
        obtain ⟨_, m, e1, h⟩ := bind_ok.mp h
        obtain ⟨a3, a4⟩ := mono_must _ _ _ _ a2 e1
        obtain ⟨_, m, e1, h⟩ := bind_ok.mp h
        obtain ⟨a5, a6⟩ := h2 _ _ _ a4 e1
        obtain ⟨_, m, e1, h⟩ := bind_ok.mp h
        obtain ⟨a7, a8⟩ := mono_must _ _ _ _ a6 e1
        obtain ⟨_, m, e1, h⟩ := bind_ok.mp h
        obtain ⟨a9, a10⟩ := h2 _ _ _ a8 e1
        cases h
        omega
      · obtain ⟨_, m, e1, h⟩ := bind_ok.mp h
        have g := h4 _ _ _ hi e1
        obtain ⟨a1, a2⟩ := h3 _ _ _ hi e1
        split at h
        · obtain ⟨_, m', e1, h⟩ := bind_ok.mp h
          obtain ⟨a3, a4⟩ := h3 _ _ _ (nxtN_le L _ a2) e1
          have := nxtN_ge L m
          cases h
          omega
        · cases h; exact g
theorem prog_join {next : Nat → Ps Tr} (hm : Mono L next) (hp : Prog1 L next) (a : List UInt8) (ka : Nat) (b : List UInt8) (kb : Nat) : Prog1 L (joinT L next a ka b kb) := fun i x j hi h => by
  unfold joinT at h
  obtain ⟨y, m, h2, h3⟩ := bind_ok.mp h
  have a0 := hp _ _ _ hi h2
  obtain ⟨a1, a2⟩ := hm _ _ _ hi h2
  obtain ⟨a3, a4⟩ := mono_lefts hm a ka b kb _ _ _ _ _ a2 h3
  omega
theorem prog_read : ∀ k, Prog1 L (readT L k).1 ∧ Prog1 L (readT L k).2
  | 0 => ⟨fun _ _ _ _ h => (by cases h), fun _ _ _ _ h => (by cases h)⟩
  | k + 1 => by
    obtain ⟨h1, h2⟩ := mono_read (L := L) k
    have hp : Prog1 L (readT L (k + 1)).1 := prog_part h1 h2
    have hm := (mono_read (L := L) (k + 1)).1
    exact ⟨hp, prog_expr (mono_sum h1) h2 (mono_sum hm) (prog_join (mono_join hm _ _ _ _) (prog_join hm hp _ _ _ _) _ _ _ _)⟩
end
open Go.RowKit
theorem own_lit2 (w : World) (x y : Value) (e : Nat) : (w.alloc (.cells #[x, y] e)).ownsRow w.heap.size e 1 (.slice (some ⟨w.heap.size, 0, none⟩) 2 2) 2 [x, y] :=
  ⟨by simp, .inr ⟨w.heap.size, 2, #[x, y], rfl, Nat.le_refl _, heap_alloc_new w _, Nat.le_refl _, by unfold maxLen; omega, rfl, by simp⟩⟩
theorem node2 {T E : TypeId} {lo h1 h2 : Nat} {w : World} {v u : Value} {x y : Tr} (kd p : Nat) (hx : trAt T E x lo h1 w v) (hy : trAt T E y lo h2 w u) (hl : lo ≤ w.heap.size) (hh1 : h1 ≤ w.heap.size) (hh2 : h2 ≤ w.heap.size) :
    trAt T E (.mk kd 0 [] [x, y] p) lo ((w.alloc (.cells #[v, u] E)).alloc (.cells (pcells kd 0 [] (.slice (some ⟨w.heap.size, 0, none⟩) 2 2) p).toArray T)).heap.size ((w.alloc (.cells #[v, u] E)).alloc (.cells (pcells kd 0 [] (.slice (some ⟨w.heap.size, 0, none⟩) 2 2) p).toArray T)) (.pointer (some ⟨w.heap.size + 1, 0, none⟩)) := by
  have e1 := Ext.alloc w (.cells #[v, u] E)
  have e2 := Ext.alloc (w.alloc (.cells #[v, u] E)) (.cells (pcells kd 0 [] (.slice (some ⟨w.heap.size, 0, none⟩) 2 2) p).toArray T)
  have hb := BlkOf.new (w.alloc (.cells #[v, u] E)) (pcells kd 0 [] (.slice (some ⟨w.heap.size, 0, none⟩) 2 2) p) T
  have hz : (w.alloc (.cells #[v, u] E)).heap.size = w.heap.size + 1 := World.size_alloc _ _
  rw [hz] at hb
  have ho := own_ext (own_lit2 w v u E) e2
  have hsz := e2.size
  have hsz1 := e1.size
  refine trAt_mk.mpr ⟨_, _, [v, u], rfl, by omega, hb.lt, hb, own_from ho hl, fun A hA => ?_, .cons ((hx.ext (e1.trans e2)).mono (Nat.le_refl _) (by omega)) (.cons ((hy.ext (e1.trans e2)).mono (Nat.le_refl _) (by omega)) .nil)⟩
  have hq := hb.lt
  have hA2 : w.heap.size = A := Option.some.inj hA
  omega
end Go.Att
namespace Go.Proofs.YtgnomhbbbcfehaaGreatDoor
open Go.RowKit Go.Att Go.Shelf
def PTr (W : World) (w' : World) (v : Value) (x : Tr) : Prop := trAt 152 83 x W.heap.size w'.heap.size w' v
theorem ext_turn {wz w W : World} {b : Nat} (hx : Ext wz w) (hg : w.grownBy W (some b)) (hb : wz.heap.size ≤ b) : Ext wz W :=
  ⟨hg.os.trans hx.below.os, hg.tape.trans hx.below.tape, hg.output.trans hx.below.output, Nat.le_trans hx.size hg.size, fun k hk => (hg.block k (Nat.lt_of_lt_of_le hk hx.size) (fun e => by have := Option.some.inj e; omega)).trans (hx.below.block k hk)⟩
def ReadsBy (wz : World) (fid : FuncId) (b : Nat) (L : List UInt8) (lv : Nat) (f : Nat → Ps Tr) : Prop := ∀ W i, RdAt W b L i lv → Ext wz W → Calls Tryz.prog fid #[.pointer (some ⟨b, 0, none⟩)] W (PGot W b L lv (PTr W) (f i))
theorem PTr.up {W0 W w' : World} {v : Value} {x : Tr} (h : PTr W w' v x) (hs : W0.heap.size ≤ W.heap.size) : PTr W0 w' v x := trAt.mono h hs (Nat.le_refl _)
section
variable {wz w : World} {b : Nat} {L : List UInt8} {i lv : Nat}
set_option maxRecDepth 100000 in
set_option maxHeartbeats 4000000 in
theorem slefts_any {next : Nat → Ps Tr} (_hm : Mono L next) (hp : Prog1 L next) (fid : FuncId) (hfid : ∀ (xs : Array Value) (W : World), (callFunc fid xs).run Tryz.prog W = .ok (.enter fid xs) W) (hN : ReadsBy wz fid b L lv next) (a1 : List UInt8) (ka : Nat) (b1 : List UInt8) (kb : Nat) (h : RdAt w b L i lv) (hL : L.length ≤ 4000) (hx : Ext wz w) (hwb : wz.heap.size ≤ b) :
    Calls Tryz.prog 130 #[.pointer (some ⟨b, 0, none⟩), .func (.func fid) #[.pointer (some ⟨b, 0, none⟩)] #[], .string ⟨a1.toArray⟩, .int .i64 ka, .string ⟨b1.toArray⟩, .int .i64 kb] w (PGot w b L lv (PTr w) (joinT L next a1 ka b1 kb i)) := by
  have HN := Lib.hid hN
  have H := Lib.hid h
  have HI := Lib.hid h.le
  have HX0 := Lib.hid hx
  have HWB := Lib.hid hwb
  have HJ := Lib.hid (show joinT L next a1 ka b1 kb i = (next i).bind fun x j => leftsT L next a1 ka b1 kb (L.length + 1) x j from rfl)
  clear h hN hx hwb
  generalize joinT L next a1 ka b1 kb i = R at *
  go_enter Tryz.func130, Tryz.ntmps130
  go_wp2_with fail
  refine (HN.out w i H.out HX0.out).mono ?_
  intro e w1 h1
  rcases h1.cases with ⟨a, k, hr, he, hg⟩ | ⟨x, j, v, hr, rfl, hr1, hg1, ht1⟩
  · subst he
    go_wp2_with fail
    exact ⟨rfl, PGot.bad (HJ.out.trans (by rw [hr]; rfl)) ⟨rfl, hg⟩⟩
  · have HJ2 := Lib.hid (show R = leftsT L next a1 ka b1 kb (L.length + 1) x j from HJ.out.trans (by rw [hr]; rfl))
    have HR1 := Lib.hid hr1; have HG1 := Lib.hid hg1; have HT1 := Lib.hid ht1
    clear hr hr1 hg1 ht1 h1 HJ
    go_wp2_with fail
    go_loopw [13] (fun x13 wr => ∃ (x : Tr) (j n : Nat), Hid (RdAt wr b L j lv) ∧ Hid (w.grownBy wr (some b)) ∧ Hid (PTr w wr x13 x) ∧ Hid (R = leftsT L next a1 ka b1 kb n x j) ∧ L.length + 1 ≤ n + j ∧ j ≤ L.length) (fun _ wr => L.length - nextAt wr b)
    case atStart => exact ⟨x, j, L.length + 1, HR1, HG1, HT1, HJ2, by omega, HR1.out.le⟩
    case round =>
      clear HJ2 HT1 HG1 HR1
      clear x j
      obtain ⟨x, j, n, HR, HG, HT, HJ, hn, hj⟩ := hrel
      obtain ⟨n, rfl⟩ : ∃ m, n = m + 1 := ⟨n - 1, by omega⟩
      have c3 : wr.cell? ⟨b, 3, none⟩ = some (.int .i64 (tokN L j).pos) := BlkOf.cell HR.out.blk 3
      have HM := Lib.hid (nextAt_rd HR.out.blk)
      have HLB := Lib.hid (H.out.lt)
      obtain ⟨q, rfl, -, -⟩ := trAt.ptr HT.out
      have HJ2 := Lib.hid (show R = if isT L j a1 then (next (nxtN L j)).bind fun y i => leftsT L next a1 ka b1 kb n (.mk ka 0 [] [x, y] (tokN L j).pos) i else if isT L j b1 then (next (nxtN L j)).bind fun y i => leftsT L next a1 ka b1 kb n (.mk kb 0 [] [x, y] (tokN L j).pos) i else .ok x j from HJ.out)
      have HPG := Lib.hid (hp (nxtN L j))
      have HNL := Lib.hid (nxtN_le L j hj)
      cases ea : isT L j a1 with
      | true =>
        have HSA := Lib.hid (sskd_yes HR.out hL ea)
        have hgt := isT_gt ea
        have HJ3 := Lib.hid (show R = (next (nxtN L j)).bind fun y i => leftsT L next a1 ka b1 kb n (.mk ka 0 [] [x, y] (tokN L j).pos) i from HJ2.out.trans (by rw [ea, if_pos rfl]))
        clear ea
        generalize (tokN L j).pos = ps at *
        go_upto_region 5 with (go_at_call 92; refine HSA.out.mono ?_; rintro e w2 ⟨rfl, hr2, hg2⟩; have HR2 := Lib.hid hr2; have HG2 := Lib.hid hg2; have HT2 := Lib.hid (trAt.kept HT.out hg2 (fun r e => by have := HLB.out; have := Option.some.inj e; omega)); clear hr2 hg2)
        clear HJ2
        go_wp2_with fail
        refine (HN.out w2 _ HR2.out (ext_turn HX0.out (grown_one HG.out HG2.out) HWB.out)).mono ?_
        intro e w3 h3
        rcases h3.cases with ⟨a, k, hr, he, hg⟩ | ⟨y, m, u, hr, rfl, hr3, hg3, ht3⟩
        · subst he
          go_wp2_with fail
          exact ⟨rfl, PGot.bad (HJ3.out.trans (by rw [hr]; rfl)) ⟨rfl, grown_one (grown_one HG.out HG2.out) hg⟩⟩
        · obtain ⟨q3, rfl, -, -⟩ := trAt.ptr ht3
          have HX3 := Lib.hid (trAt.kept HT2.out hg3 (fun r e => by have := HLB.out; have := Option.some.inj e; omega))
          have hsz := Nat.le_trans HG.out.size HG2.out.size
          have HY := Lib.hid (node2 ka ps HX3.out (trAt.mono ht3 hsz (Nat.le_refl _)) (Nat.le_trans hsz hg3.size) (Nat.le_trans HG2.out.size hg3.size) (Nat.le_refl _))
          have HJ4 := Lib.hid (HJ3.out.trans (show _ = leftsT L next a1 ka b1 kb n (.mk ka 0 [] [x, y] ps) m from by rw [hr]; rfl))
          have hjm := HPG.out _ _ HNL.out hr
          have HR3 := Lib.hid hr3; have HG3 := Lib.hid (grown_one (grown_one HG.out HG2.out) hg3)
          have HEX := Lib.hid ((Ext.alloc w3 (.cells #[.pointer (some ⟨q, 0, none⟩), .pointer (some ⟨q3, 0, none⟩)] 83)).trans (Ext.alloc (w3.alloc (.cells #[.pointer (some ⟨q, 0, none⟩), .pointer (some ⟨q3, 0, none⟩)] 83)) (.cells (pcells ka 0 [] (.slice (some ⟨w3.heap.size, 0, none⟩) 2 2) ps).toArray 152)))
          clear hr3 hg3 ht3 hr h3 hsz
          go_wp2_with fail
          go_roundw
          case rel => exact ⟨_, m, n, Lib.hid (HR3.out.ext HEX.out), Lib.hid (grown_ext HG3.out HEX.out), HY, HJ4, by omega, HR3.out.le⟩
          case measure =>
            rw [HM.out]
            refine Nat.lt_of_le_of_lt (Nat.le_of_eq (congrArg (L.length - ·) (nextAt_rd (HR3.out.ext HEX.out).blk))) ?_
            have := nxtN_ge L m
            have := HNL.out
            have := (HR3.out).le
            omega
      | false =>
        have HSA := Lib.hid (sskd_no HR.out hL ea)
        cases eb : isT L j b1 with
        | true =>
          have hgt := isT_gt eb
          have HJ3 := Lib.hid (show R = (next (nxtN L j)).bind fun y i => leftsT L next a1 ka b1 kb n (.mk kb 0 [] [x, y] (tokN L j).pos) i from HJ2.out.trans (by rw [ea, if_neg (by simp), eb, if_pos rfl]))
          clear ea
          generalize (tokN L j).pos = ps at *
          go_upto_region 6 with (go_at_call 92; refine HSA.out.mono ?_; rintro e w1 ⟨rfl, hr1, hg1⟩; have HSB := Lib.hid (sskd_yes hr1 hL eb); have HG1 := Lib.hid hg1; clear hr1 hg1)
          clear eb
          go_upto_region 7 with (go_at_call 92; refine HSB.out.mono ?_; rintro e w2 ⟨rfl, hr2, hg2⟩; have HR2 := Lib.hid hr2; have HG2 := Lib.hid (grown_one HG1.out hg2); have HT2 := Lib.hid (trAt.kept HT.out HG2.out (fun r e => by have := HLB.out; have := Option.some.inj e; omega)); clear hr2 hg2)
          clear HJ2
          go_wp2_with fail
          refine (HN.out w2 _ HR2.out (ext_turn HX0.out (grown_one HG.out HG2.out) HWB.out)).mono ?_
          intro e w3 h3
          rcases h3.cases with ⟨a, k, hr, he, hg⟩ | ⟨y, m, u, hr, rfl, hr3, hg3, ht3⟩
          · subst he
            go_wp2_with fail
            exact ⟨rfl, PGot.bad (HJ3.out.trans (by rw [hr]; rfl)) ⟨rfl, grown_one (grown_one HG.out HG2.out) hg⟩⟩
          · obtain ⟨q3, rfl, -, -⟩ := trAt.ptr ht3
            have HX3 := Lib.hid (trAt.kept HT2.out hg3 (fun r e => by have := HLB.out; have := Option.some.inj e; omega))
            have hsz := Nat.le_trans HG.out.size HG2.out.size
            have HY := Lib.hid (node2 kb ps HX3.out (trAt.mono ht3 hsz (Nat.le_refl _)) (Nat.le_trans hsz hg3.size) (Nat.le_trans HG2.out.size hg3.size) (Nat.le_refl _))
            have HJ4 := Lib.hid (HJ3.out.trans (show _ = leftsT L next a1 ka b1 kb n (.mk kb 0 [] [x, y] ps) m from by rw [hr]; rfl))
            have hjm := HPG.out _ _ HNL.out hr
            have HR3 := Lib.hid hr3; have HG3 := Lib.hid (grown_one (grown_one HG.out HG2.out) hg3)
            have HEX := Lib.hid ((Ext.alloc w3 (.cells #[.pointer (some ⟨q, 0, none⟩), .pointer (some ⟨q3, 0, none⟩)] 83)).trans (Ext.alloc (w3.alloc (.cells #[.pointer (some ⟨q, 0, none⟩), .pointer (some ⟨q3, 0, none⟩)] 83)) (.cells (pcells kb 0 [] (.slice (some ⟨w3.heap.size, 0, none⟩) 2 2) ps).toArray 152)))
            clear hr3 hg3 ht3 hr h3 hsz
            go_wp2_with fail
            go_roundw
            case rel => exact ⟨_, m, n, Lib.hid (HR3.out.ext HEX.out), Lib.hid (grown_ext HG3.out HEX.out), HY, HJ4, by omega, HR3.out.le⟩
            case measure =>
              rw [HM.out]
              refine Nat.lt_of_le_of_lt (Nat.le_of_eq (congrArg (L.length - ·) (nextAt_rd (HR3.out.ext HEX.out).blk))) ?_
              have := nxtN_ge L m
              have := HNL.out
              have := (HR3.out).le
              omega
        | false =>
          have HJ3 := Lib.hid (show R = .ok x j from HJ2.out.trans (by rw [ea, if_neg (by simp), eb, if_neg (by simp)]))
          clear ea HJ2
          generalize (tokN L j).pos = ps at *
          go_upto_region 6 with (go_at_call 92; refine HSA.out.mono ?_; rintro e w1 ⟨rfl, hr1, hg1⟩; have HSB := Lib.hid (sskd_no hr1 hL eb); have HG1 := Lib.hid hg1; clear hr1 hg1)
          clear eb
          go_wp2_with (go_at_call 92; refine HSB.out.mono ?_; rintro e w2 ⟨rfl, hr2, hg2⟩; have HR2 := Lib.hid hr2; have HG2 := Lib.hid (grown_one HG1.out hg2); have HT2 := Lib.hid (trAt.kept HT.out HG2.out (fun r e => by have := HLB.out; have := Option.some.inj e; omega)); clear hr2 hg2)
          go_ret
          exact PGot.ok HJ3.out HR2.out (grown_one HG.out HG2.out) (trAt.mono HT2.out (Nat.le_refl _) HG2.out.size)
theorem sprod_any {part : Nat → Ps Tr} (hm : Mono L part) (hp : Prog1 L part) (hN : ReadsBy wz 164 b L lv part) (hL : L.length ≤ 4000) (hwb : wz.heap.size ≤ b) : ReadsBy wz 131 b L lv (prodT L part) := fun w i h hx => by
  have C := Lib.hid (slefts_any hm hp 164 (fun _ _ => by kernel_rfl) hN [42] 4 [47] 5 h hL hx hwb)
  clear h hN hx hwb
  go_enter Tryz.func131, Tryz.ntmps131
  go_wp2_with fail
  refine C.out.mono ?_
  intro e w1 h1
  rcases h1.cases with ⟨a, k, hr, he, hg⟩ | ⟨x, j, v, hr, rfl, hr1, hg1, ht1⟩
  · subst he
    go_wp2_with fail
    exact ⟨rfl, PGot.bad hr ⟨rfl, hg⟩⟩
  · go_wp2_with fail
    go_ret
    exact PGot.ok hr hr1 hg1 ht1
theorem ssum_any {part : Nat → Ps Tr} (hm : Mono L part) (hp : Prog1 L part) (hN : ReadsBy wz 164 b L lv part) (hL : L.length ≤ 4000) (hwb : wz.heap.size ≤ b) : ReadsBy wz 97 b L lv (sumT L part) := fun w i h hx => by
  have C := Lib.hid (slefts_any (mono_join hm [42] 4 [47] 5) (prog_join hm hp [42] 4 [47] 5) 131 (fun _ _ => by kernel_rfl) (sprod_any hm hp hN hL hwb) [43] 2 [45] 3 h hL hx hwb)
  clear h hN hx hwb
  go_enter Tryz.func97, Tryz.ntmps97
  go_wp2_with fail
  refine C.out.mono ?_
  intro e w1 h1
  rcases h1.cases with ⟨a, k, hr, he, hg⟩ | ⟨x, j, v, hr, rfl, hr1, hg1, ht1⟩
  · subst he
    go_wp2_with fail
    exact ⟨rfl, PGot.bad hr ⟨rfl, hg⟩⟩
  · go_wp2_with fail
    go_ret
    exact PGot.ok hr hr1 hg1 ht1
end
end Go.Proofs.YtgnomhbbbcfehaaGreatDoor
end
section
namespace Go.Proofs.YtgnomhbbbcfehaaGreatDoor
open Go.RowKit Go.Att Go.Shelf
def LsGot {α : Type} (w0 : World) (b : Nat) (L : List UInt8) (lv : Nat) (Inv : World → α → Prop) (r : Ps α) (e : Ending) (w' : World) : Prop :=
  match r with
  | .ok x j => e = .returned (.tuple #[]) ∧ RdAt w' b L j lv ∧ Inv w' x
  | .bad a k => FStop w0 b a k e w'
section
variable {α : Type} {w0 w w' : World} {b : Nat} {L : List UInt8} {i lv : Nat}
theorem LsGot.cases {Inv : World → α → Prop} {r : Ps α} {e : Ending} (h : LsGot w0 b L lv Inv r e w') : (∃ a k, r = .bad a k ∧ FStop w0 b a k e w') ∨ ∃ x j, r = .ok x j ∧ e = .returned (.tuple #[]) ∧ RdAt w' b L j lv ∧ Inv w' x := by
  cases r with
  | ok x i => exact .inr ⟨x, i, rfl, h⟩
  | bad a k => exact .inl ⟨a, k, rfl, h⟩
theorem LsGot.bad {Inv : World → α → Prop} {r : Ps α} {a k : Nat} {e : Ending} (hr : r = .bad a k) (h : FStop w0 b a k e w') : LsGot w0 b L lv Inv r e w' := by subst hr; exact h
theorem LsGot.ok {Inv : World → α → Prop} {r : Ps α} {x : α} {j : Nat} (hr : r = .ok x j) (h1 : RdAt w' b L j lv) (h2 : Inv w' x) : LsGot w0 b L lv Inv r (.returned (.tuple #[])) w' := by subst hr; exact ⟨rfl, h1, h2⟩
theorem RdAt.back (h : RdAt w b L i (lv + 1)) {v : Int} (hv : v = lv) : RdAt (w.setCell ⟨b, 5, none⟩ (.int .i64 v)) b L i lv := by
  subst hv
  exact ⟨BlkOf.set h.blk 5 (.int .i64 (lv : Int)), h.le⟩
theorem RdAt.lev (h : RdAt w b L i (lv + 1)) : w.cell? ⟨b, 5, none⟩ = some (.int .i64 ((lv : Int) + 1)) := BlkOf.cell h.blk 5
set_option maxRecDepth 100000 in
set_option maxHeartbeats 4000000 in
theorem slist_any {one : Nat → Ps α} (_hm : Mono L one) (hp : Prog1 L one) {k : Nat} (fid : FuncId) (c1 c2 : Value) (hfid : ∀ (xs : Array Value) (W : World), (callFunc fid xs).run Tryz.prog W = .ok (.enter fid xs) W)
    (Inv : World → List α → Prop) (hG : ∀ W acc, Inv W acc → w0.grownBy W (some b)) (hK : ∀ W W' acc, Inv W acc → W.grownBy W' (some b) → Inv W' acc)
    (hO : k ≠ 0 → ∀ W acc i, acc.length ≤ i → RdAt W b L i (lv + 1) → Inv W acc → Calls Tryz.prog fid #[c1, c2] W (LsGot w0 b L (lv + 1) (fun w' x => Inv w' (acc ++ [x])) (one i)))
    (h : RdAt w b L i lv) (hI : Inv w []) (hL : L.length ≤ 4000) (hk : lv + k = 64) :
    Calls Tryz.prog 54 #[.pointer (some ⟨b, 0, none⟩), .func (.func fid) #[] #[c1, c2]] w (LsGot w0 b L lv Inv (listT L k one i)) := by
  have H := Lib.hid h; have HI := Lib.hid hI; have HO := Lib.hid hO; have HG := Lib.hid hG; have HK := Lib.hid hK
  have HJ := Lib.hid (show listT L k one i = if isT L i [40] then (enterT L k i).bind fun _ i => if isT L i [41] then .ok [] (nxtN L i) else (one i).bind fun x j => moreT L one (L.length + 1) [x] j else .bad (tokN L i).pos 5 from rfl)
  have HS := Lib.hid (sis_any h [40])
  clear h hI hO hG hK
  generalize listT L k one i = R at *
  cases e40 : isT L i [40] with
  | false =>
    rw [e40] at HS
    have HJ2 := Lib.hid (show R = .bad (tokN L i).pos 5 from HJ.out.trans (by rw [e40, if_neg (by simp)]))
    clear e40 HJ
    go_enter Tryz.func54, Tryz.ntmps54
    go_wp2_with (first | (go_at_call 95; refine HS.out.mono ?_; rintro e w1 ⟨rfl, rfl⟩) | (go_at_call 93; refine (sfail_any H.out 5).mono ?_; rintro e w1 ⟨rfl, hg⟩))
    exact ⟨rfl, LsGot.bad HJ2.out ⟨rfl, grown_one (HG.out _ _ HI.out) hg⟩⟩
  | true =>
    rw [e40] at HS
    have HJ2 := Lib.hid (show R = (enterT L k i).bind fun _ i => if isT L i [41] then .ok [] (nxtN L i) else (one i).bind fun x j => moreT L one (L.length + 1) [x] j from HJ.out.trans (by rw [e40, if_pos rfl]))
    clear e40 HJ
    go_enter Tryz.func54, Tryz.ntmps54
    go_upto_region 2 with (go_at_call 95; refine HS.out.mono ?_; rintro e w1 ⟨rfl, rfl⟩)
    go_wp2_with fail
    refine (senter_any H.out hL hk).mono ?_
    intro e w1 h1
    rcases PGot.cases h1 with ⟨a, d, hr, he, hg⟩ | ⟨x, j, v, hr, rfl, hr1, hg1, rfl⟩
    · subst he
      go_wp2_with fail
      exact ⟨rfl, LsGot.bad (HJ2.out.trans (by rw [hr]; rfl)) ⟨rfl, grown_one (HG.out _ _ HI.out) hg⟩⟩
    · have HJ3 := Lib.hid (show R = if isT L j [41] then .ok [] (nxtN L j) else (one j).bind fun x j => moreT L one (L.length + 1) [x] j from HJ2.out.trans (by rw [hr]; rfl))
      have HO := Lib.hid (HO.out (enter_ok.mp hr).1)
      have HR1 := Lib.hid hr1
      have HI1 := Lib.hid (HK.out _ _ _ HI.out hg1)
      have HS1 := Lib.hid (sis_any hr1 [41])
      clear hr hr1 hg1 h1 HJ2 HI H HS
      have hlv : lv ≤ 64 := by omega
      clear hk
      cases e41 : isT L j [41] with
      | true =>
        rw [e41] at HS1
        have HJ4 := Lib.hid (show R = .ok [] (nxtN L j) from HJ3.out.trans (by rw [e41, if_pos rfl]))
        have HMU := Lib.hid (smust_any HR1.out hL [41])
        have HMT := Lib.hid (show mustT L j [41] = .ok () (nxtN L j) from by unfold mustT; rw [e41, if_pos rfl])
        rw [HMT.out] at HMU
        clear e41 HJ3 HMT
        go_upto_region 7 with (go_at_call 95; refine HS1.out.mono ?_; rintro e w2 ⟨rfl, rfl⟩)
        go_upto_region 8 with (go_at_call 52; refine HMU.out.mono ?_; rintro e w2 ⟨v, rfl, hr2, hg2, rfl⟩; have HR2 := Lib.hid hr2; have HG2 := Lib.hid hg2; clear hr2 hg2)
        have c5 := HR2.out.lev
        have f5 := BlkOf.free HR2.out.blk 5
        go_wp2_with fail
        go_end0
        exact LsGot.ok HJ4.out (HR2.out.back (by omega)) (HK.out _ _ _ HI1.out (grown_one HG2.out (setCell_grown _ _ _ _)))
      | false =>
        rw [e41] at HS1
        have HJ4 := Lib.hid (show R = (one j).bind fun x j => moreT L one (L.length + 1) [x] j from HJ3.out.trans (by rw [e41, if_neg (by simp)]))
        clear e41 HJ3
        go_upto_region 4 with (go_at_call 95; refine HS1.out.mono ?_; rintro e w2 ⟨rfl, rfl⟩)
        go_wp2_with fail
        refine (HO.out _ _ _ (Nat.zero_le _) HR1.out HI1.out).mono ?_
        intro e w2 h2
        rcases h2.cases with ⟨a, d, hr, he, hg⟩ | ⟨x, m, hr, rfl, hr2, hi2⟩
        · subst he
          go_wp2_with fail
          exact ⟨rfl, LsGot.bad (HJ4.out.trans (by rw [hr]; rfl)) ⟨rfl, hg⟩⟩
        · have HJ5 := Lib.hid (show R = moreT L one (L.length + 1) [x] m from HJ4.out.trans (by rw [hr]; rfl))
          have HR2 := Lib.hid hr2; have HI2 := Lib.hid (show Inv w2 [x] from hi2)
          have hjm := hp _ _ _ HR1.out.le hr
          clear hr hr2 hi2 h2 HJ4 HI1 HR1 HS1
          go_wp2_with fail
          go_loopw [] (fun wr => ∃ (acc : List α) (j n : Nat), Hid (RdAt wr b L j (lv + 1)) ∧ Hid (Inv wr acc) ∧ Hid (R = moreT L one n acc j) ∧ L.length + 1 ≤ n + j ∧ j ≤ L.length ∧ acc.length ≤ j) (fun wr => L.length - nextAt wr b)
          case atStart => exact ⟨[x], m, L.length + 1, HR2, HI2, HJ5, by omega, HR2.out.le, by simp; omega⟩
          case round =>
            clear HJ5 HI2 HR2 hjm
            clear x m
            obtain ⟨acc, j, n, HR, HI, HJ, hn, hj, hac⟩ := hrel
            obtain ⟨n, rfl⟩ : ∃ m, n = m + 1 := ⟨n - 1, by omega⟩
            have HM := Lib.hid (nextAt_rd HR.out.blk)
            have HJ2 := Lib.hid (show R = if isT L j [44] then (one (nxtN L j)).bind fun x j => moreT L one n (acc ++ [x]) j else (mustT L j [41]).bind fun _ j => .ok acc j from HJ.out)
            clear HJ
            cases e44 : isT L j [44] with
            | true =>
              have HSA := Lib.hid (sskd_yes HR.out hL e44)
              have hgt := isT_gt e44
              have HJ3 := Lib.hid (show R = (one (nxtN L j)).bind fun x j => moreT L one n (acc ++ [x]) j from HJ2.out.trans (by rw [e44, if_pos rfl]))
              have HNL := Lib.hid (nxtN_le L j hj)
              have HPG := Lib.hid (hp (nxtN L j))
              clear e44 HJ2
              go_upto_region 6 with (go_at_call 92; refine HSA.out.mono ?_; rintro e w2 ⟨rfl, hr2, hg2⟩; have HR2 := Lib.hid hr2; have HI2 := Lib.hid (HK.out _ _ _ HI.out hg2); clear hr2 hg2)
              go_wp2_with fail
              refine (HO.out _ _ _ (Nat.le_trans hac (nxtN_ge L j)) HR2.out HI2.out).mono ?_
              intro e w3 h3
              rcases h3.cases with ⟨a, d, hr, he, hg⟩ | ⟨y, m, hr, rfl, hr3, hi3⟩
              · subst he
                go_wp2_with fail
                exact ⟨rfl, LsGot.bad (HJ3.out.trans (by rw [hr]; rfl)) ⟨rfl, hg⟩⟩
              · have HJ4 := Lib.hid (show R = moreT L one n (acc ++ [y]) m from HJ3.out.trans (by rw [hr]; rfl))
                have hjm := HPG.out _ _ HNL.out hr
                have HR3 := Lib.hid hr3; have HI3 := Lib.hid hi3
                clear hr hr3 hi3 h3
                go_wp2_with fail
                go_roundw
                case rel => exact ⟨acc ++ [y], m, n, HR3, HI3, HJ4, by omega, HR3.out.le, by simp; omega⟩
                case measure =>
                  rw [HM.out, nextAt_rd HR3.out.blk]
                  have := nxtN_ge L m
                  have := HNL.out
                  have := HR3.out.le
                  omega
            | false =>
              have HSA := Lib.hid (sskd_no HR.out hL e44)
              have HJ3 := Lib.hid (show R = (mustT L j [41]).bind fun _ j => .ok acc j from HJ2.out.trans (by rw [e44, if_neg (by simp)]))
              clear e44 HJ2
              go_upto_region 7 with (go_at_call 92; refine HSA.out.mono ?_; rintro e w2 ⟨rfl, hr2, hg2⟩; have HR2 := Lib.hid hr2; have HI2 := Lib.hid (HK.out _ _ _ HI.out hg2); clear hr2 hg2)
              go_wp2_with fail
              refine (smust_any HR2.out hL [41]).mono ?_
              intro e w3 h3
              rcases h3.cases with ⟨a, d, hr, he, hg⟩ | ⟨y, m, v, hr, rfl, hr3, hg3, rfl⟩
              · subst he
                go_wp2_with fail
                exact ⟨rfl, LsGot.bad (HJ3.out.trans (by rw [hr]; rfl)) ⟨rfl, grown_one (HG.out _ _ HI2.out) hg⟩⟩
              · have HJ4 := Lib.hid (show R = .ok acc m from HJ3.out.trans (by rw [hr]; rfl))
                have HR3 := Lib.hid hr3; have HG3 := Lib.hid hg3
                clear hr hr3 hg3 h3
                have c5 := HR3.out.lev
                have f5 := BlkOf.free HR3.out.blk 5
                go_wp2_with fail
                go_end0
                exact LsGot.ok HJ4.out (HR3.out.back (by omega)) (HK.out _ _ _ HI2.out (grown_one HG3.out (setCell_grown _ _ _ _)))
end
end Go.Proofs.YtgnomhbbbcfehaaGreatDoor
end
