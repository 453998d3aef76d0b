/- A sponge on both sides; a sponge and a domain: contracts. -/
import Derived.Test.YthlnjfnlhgnblaaDoorV2
import Derived.Test.YthlnjfnlhgnblaaDoorHb
namespace Go.Att
open Go.RowKit
/-- A sponge over a field. -/
def SpgOf (w : World) (s f : Value) (p : Int) : Prop := ∃ (b k : Nat) (rt : Int), s = .pointer (some ⟨b, 0, none⟩) ∧ IsPw p k ∧ SpB w b f k rt (fun r j => finv p ((r : Int) + j + 8))
theorem SpgOf.ext {w w' : World} {s f : Value} {p : Int} (h : SpgOf w s f p) (hx : Ext w w') : SpgOf w' s f p := by
  obtain ⟨b, k, rt, h1, h2, h3⟩ := h; exact ⟨b, k, rt, h1, h2, h3.ext hx⟩
theorem SpgOf.ptr {w : World} {s f : Value} {p : Int} (h : SpgOf w s f p) : ∃ b, s = .pointer (some ⟨b, 0, none⟩) ∧ w.cell? ⟨b, 0, none⟩ = some f := by
  obtain ⟨b, k, rt, h1, h2, h3⟩ := h; exact ⟨b, h1, h3.c0⟩
def SpgGot (p : Int) (v : Value) (w' : World) : Prop := ∃ s f g, v = .tuple #[s, .bool true] ∧ SpgOf w' s f p ∧ FieldOf w' f p g
end Go.Att
namespace Go.Proofs.YthlnjfnlhgnblaaDoor
open Go.RowKit Go.Att
/-- When things are there. -/
def okT (p n sh : Int) : Prop := okP p ∧ 23 ≤ p ∧ domErr p n sh = 0
def ThingsGot (p n sh : Int) (v : Value) (w' : World) : Prop := ∃ s f g d, v = .tuple #[s, d, .bool true] ∧ SpgOf w' s f p ∧ FieldOf w' f p g ∧ DomOf w' d f n (fof p sh) (froot p g n)

set_option maxRecDepth 100000 in
set_option maxHeartbeats 1000000 in
theorem sfieldof_any {w : World} {b : Nat} {f : Value} (h : w.cell? ⟨b, 0, none⟩ = some f) : Calls Tryd.prog 20 #[.pointer (some ⟨b, 0, none⟩)] w fun e w' => e = .returned f ∧ w = w' := by
  go_enter Tryd.func20, Tryd.ntmps20
  go_wp2
  go_ret
  exact ⟨rfl, rfl⟩

set_option maxRecDepth 100000 in
set_option maxHeartbeats 1000000 in
theorem sspg_bad (p : Int) (w : World) (h : ¬ okP p) (hg : Hnd w) :
    Calls Tryd.prog 65 #[.int .i64 p] w (Gives w fun v _ => v = .tuple #[.pointer none, .bool true]) := by
  have H := Lib.hid h; have HG := Lib.hid hg; clear h hg
  go_enter Tryd.func65, Tryd.ntmps65
  go_wp2_with (go_at_call 15; refine (sfield_bad _ _ H.out HG.out).mono ?_; rintro e w' ⟨v, rfl, hx, rfl⟩)
  go_ret2
  exact .mk _ rfl hx rfl

set_option maxRecDepth 100000 in
set_option maxHeartbeats 1000000 in
theorem sspg_low (p : Int) (w : World) (h : okP p) (h23 : p < 23) (hg : Hnd w) :
    Calls Tryd.prog 65 #[.int .i64 p] w (Gives w fun v _ => v = .tuple #[.pointer none, .bool true]) := by
  have H := Lib.hid h; have HG := Lib.hid hg; clear h hg
  have hev := errv_pos (k := 3) (by decide)
  have h23' : ¬ 23 ≤ p := by omega
  go_enter Tryd.func65, Tryd.ntmps65
  go_wp2_with (first | (go_at_call 15; refine (sfield_ok _ _ H.out HG.out).mono ?_; rintro e w1 ⟨v, rfl, hx, f, g, rfl, hf⟩; obtain ⟨b, rfl⟩ := hf.ptr; obtain ⟨fs, hfs⟩ := hf.fld; have HF := Lib.hid hfs; clear hf hfs) | (go_at_call 103; refine (snew_bad HF.out h23).mono ?_; rw [hev]; rintro e w2 hrd; obtain ⟨rfl, hx2⟩ := hrd.ext; clear hrd) | (go_at_call 14; rw [← hev]; refine (error_any 3 3 _ (HG.out.ext (hx.trans hx2))).mono ?_; rintro e w3 ⟨rfl, hx3⟩))
  go_ret2
  exact .mk _ rfl ((hx.trans hx2).trans hx3) rfl

set_option maxRecDepth 100000 in
set_option maxHeartbeats 1000000 in
theorem sspg_ok (p : Int) (w : World) (h : okP p) (h23 : 23 ≤ p) (hg : Hnd w) :
    Calls Tryd.prog 65 #[.int .i64 p] w (Gives w (SpgGot p)) := by
  have H := Lib.hid h; have HG := Lib.hid hg; clear h hg
  go_enter Tryd.func65, Tryd.ntmps65
  go_wp2_with (first | (go_at_call 15; refine (sfield_ok _ _ H.out HG.out).mono ?_; rintro e w1 ⟨v, rfl, hx, f, g, rfl, hf⟩; obtain ⟨b, rfl⟩ := hf.ptr; obtain ⟨fs, hfs⟩ := hf.fld; have HF := Lib.hid hfs; have HFO := Lib.hid hf; clear hf hfs) | (go_at_call 103; refine (snew_ok HF.out h23).mono ?_; rintro e w2 ⟨v, rfl, hx2, bs, k, rt, rfl, hpw, hsp⟩; have HPW := Lib.hid hpw; have HSP := Lib.hid hsp; clear hpw hsp) | (go_at_call 14; refine (error_any 0 0 _ (HG.out.ext (hx.trans hx2))).mono ?_; rintro e w3 ⟨rfl, hx3⟩))
  go_ret2
  exact .mk _ rfl ((hx.trans hx2).trans hx3) ⟨_, _, g, rfl, ⟨bs, k, rt, rfl, HPW.out, HSP.out.ext hx3⟩, HFO.out.ext (hx2.trans hx3)⟩

set_option maxRecDepth 100000 in
set_option maxHeartbeats 1000000 in
theorem things_bad (p n sh : Int) (w : World) (h : ¬ okT p n sh) (hg : Hnd w) :
    Calls Tryd.prog 18 #[.int .i64 p, .int .i64 n, .int .i64 sh] w (Gives w fun v _ => v = .tuple #[.pointer none, .pointer none, .bool true]) := by
  have HG := Lib.hid hg; clear hg
  by_cases h1 : okP p
  · have hlo := h1.2.1; have hhi := h1.2.2
    have H := Lib.hid h1
    by_cases h2 : p < 23
    · clear h h1
      go_enter Tryd.func18, Tryd.ntmps18
      go_wp2_with (go_at_call 65; refine (sspg_low _ _ H.out h2 HG.out).mono ?_; rintro e w' ⟨v, rfl, hx, rfl⟩)
      go_ret3
      exact .mk _ rfl hx rfl
    · have h23 : 23 ≤ p := by omega
      have hE : domErr p n sh ≠ 0 := fun e => h ⟨h1, h23, e⟩
      have HE := Lib.hid hE
      have hb : (domErr p n sh != 0) = true := by rw [bne_iff_ne]; exact hE
      have hev := errv_pos hE
      clear h h1 hE h2
      go_enter Tryd.func18, Tryd.ntmps18
      go_wp2_with (first | (go_at_call 65; refine (sspg_ok _ _ H.out h23 HG.out).mono ?_; rintro e w1 ⟨v, rfl, hx, s, f, g, rfl, hs, hf⟩; obtain ⟨bs, rfl, hc⟩ := hs.ptr; obtain ⟨b, rfl⟩ := hf.ptr; obtain ⟨fs, hfs⟩ := hf.fld; have HF := Lib.hid hfs; clear hf hfs hs) | (go_at_call 20; refine (sfieldof_any hc).mono ?_; rintro e w' ⟨rfl, rfl⟩) | (go_at_call 66; refine (dnew_bad HF.out _ _ HE.out).mono ?_; rw [hev]; rintro e w2 hrd; obtain ⟨rfl, hx2⟩ := hrd.ext; clear hrd) | (go_at_call 67; refine (rfault_any _ _ _ _ hlo hhi).mono ?_; rintro e w3 ⟨rfl, rfl⟩) | (go_at_call 14; rw [← hev]; refine (error_any _ _ _ (HG.out.ext (hx.trans hx2))).mono ?_; rintro e w3 ⟨rfl, hx3⟩))
      go_ret3
      exact .mk _ rfl ((hx.trans hx2).trans hx3) (by simp)
  · have H := Lib.hid h1
    clear h h1
    go_enter Tryd.func18, Tryd.ntmps18
    go_wp2_with (go_at_call 65; refine (sspg_bad _ _ H.out HG.out).mono ?_; rintro e w' ⟨v, rfl, hx, rfl⟩)
    go_ret3
    exact .mk _ rfl hx rfl

set_option maxRecDepth 100000 in
set_option maxHeartbeats 1000000 in
theorem things_ok (p n sh : Int) (w : World) (h : okT p n sh) (hg : Hnd w) :
    Calls Tryd.prog 18 #[.int .i64 p, .int .i64 n, .int .i64 sh] w (Gives w (ThingsGot p n sh)) := by
  have HG := Lib.hid hg; clear hg
  obtain ⟨h1, h23, hE⟩ := h
  have hlo := h1.2.1; have hhi := h1.2.2
  have H := Lib.hid h1
  have HE := Lib.hid hE
  have hb : (domErr p n sh != 0) = false := by rw [bne_eq_false_iff_eq]; exact hE
  clear h1 hE
  go_enter Tryd.func18, Tryd.ntmps18
  go_wp2_with (first | (go_at_call 65; refine (sspg_ok _ _ H.out h23 HG.out).mono ?_; rintro e w1 ⟨v, rfl, hx, s, f, g, rfl, hs, hf⟩; obtain ⟨bs, rfl, hc⟩ := hs.ptr; obtain ⟨b, rfl⟩ := hf.ptr; have HF := Lib.hid hf; have HS := Lib.hid hs; clear hf hs) | (go_at_call 20; refine (sfieldof_any hc).mono ?_; rintro e w' ⟨rfl, rfl⟩) | (go_at_call 66; refine (dnew_ok HF.out _ _ HE.out).mono ?_; rintro e w2 ⟨v, rfl, hx2, d, rfl, hd⟩; obtain ⟨bd, rfl⟩ := hd.ptr; have HD := Lib.hid hd; clear hd) | (go_at_call 67; refine (rfault_any _ _ _ _ hlo hhi).mono ?_; rintro e w3 ⟨rfl, rfl⟩) | (go_at_call 14; refine (error_any 0 _ _ (HG.out.ext (hx.trans hx2))).mono ?_; rw [HE.out]; rintro e w3 ⟨rfl, hx3⟩))
  go_ret3
  exact .mk _ rfl ((hx.trans hx2).trans hx3) ⟨_, _, g, _, rfl, HS.out.ext (hx2.trans hx3), HF.out.ext (hx2.trans hx3), HD.out.ext hx3⟩
end Go.Proofs.YthlnjfnlhgnblaaDoor
