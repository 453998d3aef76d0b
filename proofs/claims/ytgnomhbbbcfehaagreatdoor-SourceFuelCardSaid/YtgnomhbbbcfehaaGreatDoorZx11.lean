/- What a checked program's parts bring, in plain words: names that stand for something, functions with as many names, numbers that stay elements. A walker calls a function: contract, by what looking at parts comes to. -/
import Derived.Test.YtgnomhbbbcfehaaGreatDoorZx10
import Derived.Test.YtgnomhbbbcfehaaGreatDoorZx12
section
namespace Go.Att
theorem firstT_none {fs : List (List UInt8 × Nat)} {sc : List (List UInt8)} {ks : List Tr} (h : firstT fs sc ks = none) : ∀ t ∈ ks, chkT fs t sc = none := by
  induction ks with
  | nil => intro t ht; cases ht
  | cons a r ih =>
    rw [firstT, Option.or_eq_none_iff] at h
    intro t ht
    rcases List.mem_cons.mp ht with e | e
    · subst e; exact h.1
    · exact ih h.2 t e
theorem chk_call {ar : List (List UInt8 × Nat)} {n : Int} {s : List UInt8} {ks : List Tr} {p : Nat} {sc : List (List UInt8)} (h : chkT ar (.mk 11 n s ks p) sc = none) : (s, ks.length) ∈ ar := by
  rw [chkT_mk, if_neg (by omega)] at h
  by_cases e : (s, ks.length) ∈ ar
  · exact e
  · rw [if_pos ⟨rfl, e⟩] at h; cases h
theorem chk_let {ar : List (List UInt8 × Nat)} {n : Int} {s : List UInt8} {a b : Tr} {p : Nat} {sc : List (List UInt8)} (h : chkT ar (.mk 8 n s [a, b] p) sc = none) : s ∉ sc ∧ chkT ar a sc = none ∧ chkT ar b (s :: sc) = none := by
  rw [chkT_mk, if_neg (by omega), if_neg (by omega), if_pos rfl] at h
  by_cases e : s ∈ sc
  · rw [if_pos e] at h; cases h
  · rw [if_neg e, Option.or_eq_none_iff] at h
    exact ⟨e, h.1, h.2⟩
theorem chk_kids {ar : List (List UInt8 × Nat)} {k : Nat} {n : Int} {s : List UInt8} {ks : List Tr} {p : Nat} {sc : List (List UInt8)} (hk : k ≠ 8) (h : chkT ar (.mk k n s ks p) sc = none) : ∀ t ∈ ks, chkT ar t sc = none := by
  rw [chkT_mk] at h
  split at h
  · cases h
  · split at h
    · cases h
    · exact firstT_none (by simpa [hk] using h)
theorem chkF_each {all : List (List UInt8 × Nat)} {fs : List Fn} : ∀ {seen : List (List UInt8)}, chkF all seen fs = none → (∀ f ∈ fs, chkT all f.body (f.names.map (·.1)) = none ∧ f.name ∉ seen) ∧ ∀ f ∈ fs, findF fs f.name = some f := by
  induction fs with
  | nil => intro seen _; exact ⟨fun f hf => (by cases hf), fun f hf => (by cases hf)⟩
  | cons a r ih =>
    intro seen h
    rw [chkF] at h
    split at h
    · cases h
    · rename_i hs
      rw [Option.or_eq_none_iff, Option.or_eq_none_iff] at h
      obtain ⟨⟨h1, h2⟩, h3⟩ := h
      obtain ⟨i1, i2⟩ := ih h3
      refine ⟨fun f hf => ?_, fun f hf => ?_⟩
      · rcases List.mem_cons.mp hf with e | e
        · subst e; exact ⟨h2, hs⟩
        · exact ⟨(i1 f e).1, fun hm => (i1 f e).2 (List.mem_cons_of_mem _ hm)⟩
      · rcases List.mem_cons.mp hf with e | e
        · subst e; unfold findF; rw [List.find?_cons]; simp
        · have hne : (a.name == f.name) = false := by
            rw [beq_eq_false_iff_ne]
            intro he
            exact (i1 f e).2 (by rw [← he]; simp)
          have := i2 f e
          unfold findF at this ⊢
          rw [List.find?_cons, hne]; exact this
structure Chkd (fs : List Fn) : Prop where
  fit : ∀ f ∈ fs, FnOk f
  wei : (fs.map weiF).sum ≤ 4000
  chk : ∀ f ∈ fs, chkT (arit fs) f.body (f.names.map (·.1)) = none
  find : ∀ f ∈ fs, findF fs f.name = some f
  main : ∃ f ∈ fs, findF fs mainW = some f
theorem parse_chkd {l : List UInt8} {fs : List Fn} {j : Nat} (h : parseT l = .ok fs j) : Chkd fs := by
  obtain ⟨h1, h2⟩ := parse_ok h
  unfold parseT at h
  split at h
  · cases h
  · obtain ⟨fs', m, h3, h4⟩ := bind_ok.mp h
    split at h4
    · cases h4
    · rename_i hc
      cases h4
      unfold chkP at hc
      rw [Option.or_eq_none_iff] at hc
      obtain ⟨i1, i2⟩ := chkF_each hc.1
      refine ⟨h1, h2, fun f hf => (i1 f hf).1, i2, ?_⟩
      have hm : mainW ∈ fs.map (·.name) := by
        by_cases e : mainW ∈ fs.map (·.name)
        · exact e
        · have := hc.2; rw [if_neg e] at this; cases this
      obtain ⟨f, hf, e⟩ := List.mem_map.1 hm
      exact ⟨f, hf, by rw [← e]; exact i2 f hf⟩
theorem Chkd.call {fs : List Fn} (h : Chkd fs) {s : List UInt8} {n : Nat} (hm : (s, n) ∈ arit fs) : ∃ f ∈ fs, findF fs s = some f ∧ f.names.length = n := by
  unfold arit at hm
  obtain ⟨f, hf, e⟩ := List.mem_map.1 hm
  injection e with e1 e2
  exact ⟨f, hf, by rw [← e1]; exact h.find f hf, e2⟩
def EnvIn (p : Int) (m : Env) : Prop := ∀ s v, m s = some v → 0 ≤ v ∧ v < p
theorem EnvIn.get {p : Int} {m : Env} (h : EnvIn p m) (hp : 0 < p) (s : List UInt8) : 0 ≤ m.get s ∧ m.get s < p := by
  unfold Env.get
  cases e : m s with
  | none => exact ⟨Int.le_refl 0, hp⟩
  | some v => exact h s v e
theorem EnvIn.put {p : Int} {m : Env} (h : EnvIn p m) {s : List UInt8} {v : Int} (h0 : 0 ≤ v) (h1 : v < p) : EnvIn p (m.put s v) := fun j u hj => by
  unfold Env.put at hj
  split at hj
  · cases hj; exact ⟨h0, h1⟩
  · exact h j u hj
def Knows (m : Env) (sc : List (List UInt8)) : Prop := ∀ s, (m s).isSome = decide (s ∈ sc)
theorem Knows.none {m : Env} {sc : List (List UInt8)} (h : Knows m sc) {s : List UInt8} (hs : s ∉ sc) : m s = none := by
  have := h s
  rw [decide_eq_false hs] at this
  cases e : m s with
  | none => rfl
  | some v => rw [e] at this; cases this
theorem Knows.put {m : Env} {sc : List (List UInt8)} (h : Knows m sc) (s : List UInt8) (v : Int) : Knows (m.put s v) (s :: sc) := fun j => by
  unfold Env.put
  by_cases e : j = s
  · rw [if_pos e, e]; simp
  · rw [if_neg e, h j]
    simp [e]
def bindI (ns : List (List UInt8)) (vs : List Int) (i : Nat) : Env := ((ns.zip vs).take i).foldl (fun m x => m.put x.1 x.2) fun _ => none
theorem bindI_all (ns : List (List UInt8)) (vs : List Int) (h : ns.length = vs.length) : bindI ns vs ns.length = bindE ns vs := by
  unfold bindI bindE
  rw [List.take_of_length_le (by rw [List.length_zip]; omega)]
theorem bindI_succ (ns : List (List UInt8)) (vs : List Int) {i : Nat} {s : List UInt8} {v : Int} (hs : ns[i]? = some s) (hv : vs[i]? = some v) : bindI ns vs (i + 1) = (bindI ns vs i).put s v := by
  have e : (ns.zip vs)[i]? = some (s, v) := by rw [List.getElem?_zip_eq_some]; exact ⟨hs, hv⟩
  unfold bindI
  rw [List.take_add_one, e]
  simp
theorem bindE_knows (ns : List (List UInt8)) (vs : List Int) (h : ns.length = vs.length) : Knows (bindE ns vs) ns := by
  have key : ∀ (l : List (List UInt8 × Int)) (m : Env) (s : List UInt8), (l.foldl (fun m x => m.put x.1 x.2) m s).isSome = ((m s).isSome || decide (s ∈ l.map (·.1))) := by
    intro l
    induction l with
    | nil => intro m s; simp
    | cons x r ih =>
      intro m s
      rw [List.foldl_cons, ih, List.map_cons]
      unfold Env.put
      by_cases e : s = x.1
      · rw [if_pos e]; simp [e]
      · rw [if_neg e]
        congr 1
        rw [decide_eq_decide]
        exact ⟨fun h => List.mem_cons_of_mem _ h, fun h => (List.mem_cons.1 h).resolve_left e⟩
  intro s
  unfold bindE
  rw [key, List.map_fst_zip (by omega)]
  simp
theorem bindE_in {p : Int} (ns : List (List UInt8)) (vs : List Int) (h : ∀ v ∈ vs, 0 ≤ v ∧ v < p) : EnvIn p (bindE ns vs) := by
  have key : ∀ (l : List (List UInt8 × Int)) (m : Env), EnvIn p m → (∀ x ∈ l, 0 ≤ x.2 ∧ x.2 < p) → EnvIn p (l.foldl (fun m x => m.put x.1 x.2) m) := by
    intro l
    induction l with
    | nil => intro m hm _; exact hm
    | cons x r ih =>
      intro m hm hx
      rw [List.foldl_cons]
      exact ih _ (hm.put (hx x (by simp)).1 (hx x (by simp)).2) fun y hy => hx y (by simp [hy])
  unfold bindE
  exact key _ _ (fun s v e => by cases e) fun x hx => h x.2 (List.of_mem_zip hx).2
theorem fitB_kids {k kd p : Nat} {n : Int} {s : List UInt8} {ks : List Tr} (hf : FitB k (.mk kd n s ks p)) :
    s.length ≤ 16 ∧ 0 ≤ n ∧ n ≤ 9223372036854775807 ∧ (∀ t ∈ ks, ∃ m, FitB m t) ∧ ((kd = 0 ∧ ks = []) ∨ (kd = 1 ∧ ks = []) ∨ (kd = 8 ∧ ∃ a b, ks = [a, b]) ∨ (kd = 9 ∧ ∃ a b c, ks = [a, b, c]) ∨ (kd = 10 ∧ ∃ a b c, ks = [a, b, c]) ∨ ((kd = 2 ∨ kd = 3 ∨ kd = 4 ∨ kd = 5 ∨ kd = 6) ∧ ∃ a b, ks = [a, b]) ∨ (kd = 7 ∧ ∃ a, ks = [a]) ∨ kd = 11) := by
  have h0 := (fitB_node hf).1
  have h1 := (fitB_node hf).2.2
  cases hf with
  | num a b => exact ⟨h0, a, b, h1, .inl ⟨rfl, rfl⟩⟩
  | name a => exact ⟨h0, by omega, by omega, h1, .inr (.inl ⟨rfl, rfl⟩)⟩
  | bin hk ha hb => exact ⟨h0, by omega, by omega, h1, .inr (.inr (.inr (.inr (.inr (.inl ⟨by omega, _, _, rfl⟩)))))⟩
  | same ha hb => exact ⟨h0, by omega, by omega, h1, .inr (.inr (.inr (.inr (.inr (.inl ⟨by omega, _, _, rfl⟩)))))⟩
  | neg ha => exact ⟨h0, by omega, by omega, h1, .inr (.inr (.inr (.inr (.inr (.inr (.inl ⟨rfl, _, rfl⟩))))))⟩
  | letB a ha hb => exact ⟨h0, by omega, by omega, h1, .inr (.inr (.inl ⟨rfl, _, _, rfl⟩))⟩
  | need ha hb hc => exact ⟨h0, by omega, by omega, h1, .inr (.inr (.inr (.inl ⟨rfl, _, _, _, rfl⟩)))⟩
  | ifB ha hb hc => exact ⟨h0, by omega, by omega, h1, .inr (.inr (.inr (.inr (.inl ⟨rfl, _, _, _, rfl⟩))))⟩
  | call a hs => exact ⟨h0, by omega, by omega, h1, .inr (.inr (.inr (.inr (.inr (.inr (.inr rfl))))))⟩
theorem wei_mem {fs : List Fn} {n : Nat} (h : (fs.map weiF).sum ≤ n) {f : Fn} (hf : f ∈ fs) : weiF f ≤ n := Nat.le_trans (sum_mem1 (List.mem_map_of_mem hf)) h
end Go.Att
end
section
namespace Go.Proofs.YtgnomhbbbcfehaaGreatDoor
open Go.RowKit Go.Att Go.Shelf
structure EvC (w0 : World) (bf wb pb lo hi : Nat) (p g : Int) (ff : List Int) (fs : List Att.Fn) (fv : Value) : Prop where
  fld : Fld w0 (.pointer (some ⟨bf, 0, none⟩)) p g ff
  prog : BlkOf w0 pb [fv] 71
  fns : fsAt fs lo hi w0 fv
  top : hi ≤ w0.heap.size
  wbk : w0.heap.size ≤ wb
  chk : Chkd fs
def WkAt (w : World) (wb bf pb fuel left : Nat) : Prop := ∃ k, k + left = fuel ∧ BlkOf w wb [.pointer (some ⟨bf, 0, none⟩), .pointer (some ⟨pb, 0, none⟩), .int .i64 fuel, .int .i64 k] 91
theorem WkAt.ext {w w' : World} {wb bf pb fuel left : Nat} (h : WkAt w wb bf pb fuel left) (hx : Ext w w') : WkAt w' wb bf pb fuel left := by obtain ⟨k, h1, h2⟩ := h; exact ⟨k, h1, h2.ext hx⟩
theorem WkAt.lt {w : World} {wb bf pb fuel left : Nat} (h : WkAt w wb bf pb fuel left) : wb < w.heap.size := by obtain ⟨k, h1, h2⟩ := h; exact h2.lt
theorem WkAt.grown {w w' : World} {wb bf pb fuel left : Nat} (h : WkAt w wb bf pb fuel left) {row : Option Nat} (hg : w.grownBy w' row) (hne : some wb ≠ row) : WkAt w' wb bf pb fuel left := by obtain ⟨k, h1, h2⟩ := h; exact ⟨k, h1, h2.grown hg hne⟩
def StopAt (k : Nat) (e : Ending) : Prop := e = .panicked [{ v := .iface 87 (.agg #[.int .i64 k]), recovered := false }]
def CpGot (w : World) (wb bf pb fuel left : Nat) (p : Int) (r : Ev Int) (e : Ending) (w' : World) : Prop := match r with
  | .ok x l => e = .returned (.int .i64 x) ∧ w.grownBy w' (some wb) ∧ WkAt w' wb bf pb fuel l ∧ l ≤ left ∧ 0 ≤ x ∧ x < p
  | .stop k => StopAt k e ∧ w.grownBy w' (some wb)
def MpS (w : World) (mb n : Nat) (m : Env) : Prop := Mpi Tryz.prog 9 3 w mb n m
def LkGot (w : World) (wb bf pb fuel mb c left : Nat) (m : Env) (p : Int) (r : Ev Int) (e : Ending) (w' : World) : Prop := match r with
  | .ok x l => e = .returned (.int .i64 x) ∧ But2 wb mb w w' ∧ WkAt w' wb bf pb fuel l ∧ (∃ c', c' + l ≤ c + left ∧ MpS w' mb c' m) ∧ l ≤ left ∧ 0 ≤ x ∧ x < p
  | .stop k => StopAt k e ∧ But2 wb mb w w'
theorem LkGot.cases {w w' : World} {wb bf pb fuel mb c left : Nat} {m : Env} {p : Int} {r : Ev Int} {e : Ending} (h : LkGot w wb bf pb fuel mb c left m p r e w') :
    (∃ x l, r = .ok x l ∧ e = .returned (.int .i64 x) ∧ But2 wb mb w w' ∧ WkAt w' wb bf pb fuel l ∧ (∃ c', c' + l ≤ c + left ∧ MpS w' mb c' m) ∧ l ≤ left ∧ 0 ≤ x ∧ x < p) ∨ ∃ k, r = .stop k ∧ StopAt k e ∧ But2 wb mb w w' := by
  cases r with
  | ok x l => exact .inl ⟨x, l, rfl, h⟩
  | stop k => exact .inr ⟨k, rfl, h⟩
theorem CpGot.cases {w w' : World} {wb bf pb fuel left : Nat} {p : Int} {r : Ev Int} {e : Ending} (h : CpGot w wb bf pb fuel left p r e w') :
    (∃ x l, r = .ok x l ∧ e = .returned (.int .i64 x) ∧ w.grownBy w' (some wb) ∧ WkAt w' wb bf pb fuel l ∧ l ≤ left ∧ 0 ≤ x ∧ x < p) ∨ ∃ k, r = .stop k ∧ StopAt k e ∧ w.grownBy w' (some wb) := by
  cases r with
  | ok x l => exact .inl ⟨x, l, rfl, h⟩
  | stop k => exact .inr ⟨k, rfl, h⟩
theorem CpGot.ok {w w' : World} {wb bf pb fuel left l : Nat} {p x : Int} {r : Ev Int} (hr : r = .ok x l) (h1 : w.grownBy w' (some wb)) (h2 : WkAt w' wb bf pb fuel l) (h3 : l ≤ left) (h4 : 0 ≤ x) (h5 : x < p) : CpGot w wb bf pb fuel left p r (.returned (.int .i64 x)) w' := by
  subst hr; exact ⟨rfl, h1, h2, h3, h4, h5⟩
theorem CpGot.halt {w w' : World} {wb bf pb fuel left k : Nat} {p : Int} {r : Ev Int} {e : Ending} (hr : r = .stop k) (he : StopAt k e) (h1 : w.grownBy w' (some wb)) : CpGot w wb bf pb fuel left p r e w' := by
  subst hr; exact ⟨he, h1⟩
theorem LkGot.ok {w w' : World} {wb bf pb fuel mb c left l c' : Nat} {m : Env} {p x : Int} {r : Ev Int} (hr : r = .ok x l) (h1 : But2 wb mb w w') (h2 : WkAt w' wb bf pb fuel l) (hc : c' + l ≤ c + left) (hm : MpS w' mb c' m) (h3 : l ≤ left) (h4 : 0 ≤ x) (h5 : x < p) : LkGot w wb bf pb fuel mb c left m p r (.returned (.int .i64 x)) w' := by
  subst hr; exact ⟨rfl, h1, h2, ⟨c', hc, hm⟩, h3, h4, h5⟩
theorem LkGot.halt {w w' : World} {wb bf pb fuel mb c left k : Nat} {m : Env} {p : Int} {r : Ev Int} {e : Ending} (hr : r = .stop k) (he : StopAt k e) (h1 : But2 wb mb w w') : LkGot w wb bf pb fuel mb c left m p r e w' := by
  subst hr; exact ⟨he, h1⟩
def LookOk (w0 : World) (bf wb pb lo hi fuel : Nat) (p : Int) (fs : List Att.Fn) (n : Nat) : Prop := ∀ (t : Tr) (sc : List (List UInt8)) (m : Env) (left c mb : Nat) (w : World) (v : Value), left ≤ n → Ext w0 w → w0.heap.size ≤ mb → mb ≠ wb →
  trAt 152 83 t lo hi w0 v → chkT (arit fs) t sc = none → (∃ k, FitB k t) → weiT t ≤ 4000 → Knows m sc → EnvIn p m → WkAt w wb bf pb fuel left → MpS w mb c m → c + left ≤ 1000000 →
  Calls Tryz.prog 69 #[.pointer (some ⟨wb, 0, none⟩), v, .map (some mb)] w (LkGot w wb bf pb fuel mb c left m p (evT p fs n t m left))
section
variable {w0 w : World} {bf wb pb lo hi fuel n left : Nat} {p g : Int} {ff : List Int} {fs : List Att.Fn} {fv : Value}
set_option maxRecDepth 100000 in
set_option maxHeartbeats 4000000 in
theorem scall_any (C : EvC w0 bf wb pb lo hi p g ff fs fv) (HL : LookOk w0 bf wb pb lo hi fuel p fs n) {f : Att.Fn} {u v : Value} {vs : List Int} (hf : f ∈ fs) (hu : fnAt f lo hi w0 u) (hx : Ext w0 w) (hwk : WkAt w wb bf pb fuel left) (hln : left ≤ n) (hl2 : left ≤ 16384)
    (hlen : f.names.length = vs.length) (hvs : ∀ x ∈ vs, 0 ≤ x ∧ x < p) (hv : Ints w v vs) :
    Calls Tryz.prog 34 #[.pointer (some ⟨wb, 0, none⟩), u, v] w (CpGot w wb bf pb fuel left p (evT p fs n f.body (bindE (f.names.map (·.1)) vs) left)) := by
  have hok := C.chk.fit f hf
  have hp2 := C.fld.hi
  have hwf : weiF f ≤ 4000 := wei_mem C.chk.wei hf
  have hw2 : f.names.length + weiT f.body ≤ 4000 := by unfold weiF at hwf; omega
  obtain ⟨q, nv, bv, av, rfl, -, hqh, hb, hn, -, -, -, ht⟩ := hu
  have hs := Sl.of_own hn (by omega)
  have hl := Sl.run_len (P := Tryz.prog) hs slStrs
  have HIX : Hid (∀ i : Nat, i < f.names.length → ∀ W : World, (Instr.indexAt 48 nv (.int .i64 i)).run Tryz.prog W = .ok (.pointer (some (elt nv i 1))) W) := Lib.hid (fun i hi W => Sl.run_index hs slStrs i (by omega) (by omega) W)
  have HIC : Hid (∀ (i : Nat) (x : List UInt8 × Nat), f.names[i]? = some x → ∀ W, Ext w0 W → W.cell? (elt nv i 1) = some (strV x.1)) := Lib.hid (fun i x hix W hW => by
    have hlt := (List.getElem?_eq_some_iff.1 hix).1
    exact hW.cell (sl_cell1 hs hlt (by rw [List.getElem?_map, hix]; rfl)))
  have HNM : Hid (∀ x ∈ f.names, x.1.length ≤ 4000) := Lib.hid (fun x hx => by have := (hok.names x hx).len; omega)
  obtain ⟨kb, hfb⟩ := fit_B hok.body
  have HLK := Lib.hid (fun W (hW : Ext w W) (c : Nat) (hM : MpS W w.heap.size c (bindE (f.names.map (·.1)) vs)) (hc : c + left ≤ 1000000) => HL f.body (f.names.map (·.1)) (bindE (f.names.map (·.1)) vs) left c w.heap.size W bv hln (hx.trans hW) hx.size (fun e => by have := hwk.lt; omega) ht (C.chk.chk f hf) ⟨kb, hfb⟩ (by omega) (bindE_knows _ _ (by rw [List.length_map]; exact hlen)) (bindE_in _ _ hvs) (hwk.ext hW) hM hc)
  have HX1 := Lib.hid (Ext.alloc w (.map #[] 0))
  have HM1 := Lib.hid (show MpS (w.alloc (.map #[] 0)) w.heap.size 0 (fun _ => none) from Mpi.made w)
  have f1 : (w.alloc (.map #[] 0)).cell? ⟨q, 1, none⟩ = some nv := (hx.trans HX1.out).cell (hb.cell 1)
  have HB2 : Hid (∀ W, Ext w W → W.cell? ⟨q, 2, none⟩ = some bv) := Lib.hid (fun W hW => (hx.trans hW).cell (hb.cell 2))
  have HX := Lib.hid hx; have HV := Lib.hid hv; have HVS := Lib.hid hvs; have HLN := Lib.hid hlen
  have HP2 := Lib.hid hp2
  clear hx hv hvs hlen hb hn hs ht hfb hok hwk HL hp2 hwf C
  have hmm := @run_makeMap Tryz.prog
  generalize evT p fs n f.body (bindE (f.names.map (·.1)) vs) left = r at *
  go_enter Tryz.func34, Tryz.ntmps34
  go_wp2_with fail
  clear f1
  go_loopw [8, 9, 16] (fun _ _ x16 wr => ∃ i : Nat, i ≤ f.names.length ∧ x16 = .int .i64 i ∧ Hid (MpS wr w.heap.size i (bindI (f.names.map (·.1)) vs i)) ∧ Hid (Ext w wr)) (fun _ _ x16 _ => f.names.length - (intOf x16).toNat)
  case atStart => exact ⟨0, Nat.zero_le _, rfl, HM1, HX1⟩
  case round =>
    clear HM1 HX1
    obtain ⟨i, hi, rfl, HM, HX9⟩ := hrel
    by_cases hlt : i < f.names.length
    · have hix := HIX.out i hlt
      obtain ⟨x, hxn⟩ : ∃ x, f.names[i]? = some x := ⟨_, List.getElem?_eq_getElem hlt⟩
      have hcell := HIC.out i x hxn wr (HX.out.trans HX9.out)
      have hiv : i < vs.length := by have := HLN.out; omega
      have hvi := (HV.out.ext HX9.out).run_index (P := Tryz.prog) slInts i hiv
      have hvc := (HV.out.ext HX9.out).cell i hiv
      have hrng := HVS.out _ (nth_mem hiv)
      obtain ⟨w', hr, hM2, hg2⟩ := Mpi.put Tryz.underlying9 Tryz.underlying3 Tryz.underlying143 HM.out (by omega) (HNM.out x (List.mem_of_getElem? hxn)) (v := nth vs i) (wf_small hrng.1 (by have := HP2.out; omega))
      have HM3 := Lib.hid (show MpS w' w.heap.size (i + 1) (bindI (f.names.map (·.1)) vs (i + 1)) from by
        rw [bindI_succ (s := x.1) (v := nth vs i) _ _ (by rw [List.getElem?_map, hxn]; rfl) (by rw [nth_eq hiv]; exact List.getElem?_eq_getElem hiv)]
        exact hM2)
      have HX3 := Lib.hid (show Ext w w' from Below.grown HX9.out.below hg2 HX9.out.size (fun k e => by cases e; exact Nat.le_refl _))
      clear hM2 hg2 hxn hrng
      go_wp2_with fail
      go_roundw
      case rel => exact ⟨i + 1, hlt, by push_cast; rfl, HM3, HX3⟩
      case measure => simp [intOf]; omega
    · obtain rfl : i = f.names.length := by omega
      have f2 := HB2.out wr HX9.out
      have HM4 : Hid (MpS wr w.heap.size f.names.length (bindE (f.names.map (·.1)) vs)) := Lib.hid (by
        have := HM.out
        have e := bindI_all (f.names.map (·.1)) vs (by rw [List.length_map]; exact HLN.out)
        rw [List.length_map] at e
        rw [e] at this
        exact this)
      have hlook := HLK.out wr HX9.out f.names.length HM4.out (by omega)
      clear HLK HM
      generalize evT p fs n f.body (bindE (f.names.map (·.1)) vs) left = r at *
      go_wp2_with fail
      refine hlook.mono ?_
      clear hlook f2
      intro e w' hG
      rcases hG.cases with ⟨x, l, hr, rfl, h1, h2, -, h3, h4, h5⟩ | ⟨k, hr, h1, h2⟩
      · have HG := Lib.hid (h1.one HX9.out (Nat.le_refl _)); have HR := Lib.hid hr
        have HK := Lib.hid h2; have HL3 := Lib.hid h3; have H4 := Lib.hid h4; have H5 := Lib.hid h5
        clear h1 h2 h3 h4 h5 hr hG
        go_wp2_with fail
        go_ret
        exact CpGot.ok HR.out HG.out HK.out HL3.out H4.out H5.out
      · have HG := Lib.hid (h2.one HX9.out (Nat.le_refl _)); have HR := Lib.hid hr
        obtain rfl := h1
        clear h2 hr hG
        go_wp2_with fail
        exact ⟨rfl, CpGot.halt HR.out rfl HG.out⟩
end
end Go.Proofs.YtgnomhbbbcfehaaGreatDoor
end
