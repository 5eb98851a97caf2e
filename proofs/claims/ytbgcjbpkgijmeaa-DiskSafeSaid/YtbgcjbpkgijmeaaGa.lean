/-
  Walks of the document's answer: an operation that may be, the bytes of files, disks that are too great.
  Conditions: none beyond those typed at each theorem.
-/
import Derived.Test.YtbgcjbpkgijmeaaDd
namespace Go.Proofs.Ytbgcjbpkgijmeaa
open Go Go.RowKit
attribute [local go_sem] undef
attribute [local go_sem high] str_eql str_neq str_lss str_leq str_geq str_eql0 str_neq0

set_option maxRecDepth 100000 in
set_option maxHeartbeats 2000000 in
theorem fineR_any (w : World) (o : Opr) (bv : Value) : Calls Try.prog 18 #[opV o bv] w fun e w' => e = .returned (.bool (fineB o)) ∧ Gr w w' := by
  obtain ⟨k, n, t, dt⟩ := o
  have HF := Lib.hid (show fineB ⟨k, n, t, dt⟩ = (decide (1 ≤ k) && decide (k ≤ 4) && neB n [] && ((k != 3) || neB t [])) by unfold neB fineB; congr 2; by_cases h : k = 3 <;> simp [h])
  generalize fineB ⟨k, n, t, dt⟩ = r at *
  have h1 : decide (1 ≤ k) = true ∨ decide (1 ≤ k) = false := by cases decide (1 ≤ k) <;> simp
  have h2 : decide (k ≤ 4) = true ∨ decide (k ≤ 4) = false := by cases decide (k ≤ 4) <;> simp
  have h3 : neB n [] = true ∨ neB n [] = false := by cases neB n [] <;> simp
  have h4 : (k != 3) = true ∨ (k != 3) = false := by cases (k != 3) <;> simp
  have h5 : neB t [] = true ∨ neB t [] = false := by cases neB t [] <;> simp
  rcases h1 with h1 | h1
  · rcases h2 with h2 | h2
    · rcases h3 with h3 | h3
      · rcases h4 with h4 | h4
        · have HF2 := Lib.hid (HF.out.trans (show _ = true by rw [h1, h2, h3, h4]; rfl))
          clear h5
          go_enter Try.func18, Try.ntmps18
          go_wp2
          go_ret
          exact ⟨by rw [HF2.out]; rfl, Gr.alloc (Gr.refl w) _⟩
        · rcases h5 with h5 | h5
          · have HF2 := Lib.hid (HF.out.trans (show _ = true by rw [h1, h2, h3, h4, h5]; rfl))
            go_enter Try.func18, Try.ntmps18
            go_wp2
            go_ret
            exact ⟨by rw [HF2.out]; rfl, Gr.alloc (Gr.refl w) _⟩
          · have HF2 := Lib.hid (HF.out.trans (show _ = false by rw [h1, h2, h3, h4, h5]; rfl))
            go_enter Try.func18, Try.ntmps18
            go_wp2
            go_ret
            exact ⟨by rw [HF2.out]; rfl, Gr.alloc (Gr.refl w) _⟩
      · have HF2 := Lib.hid (HF.out.trans (show _ = false by rw [h1, h2, h3]; rfl))
        clear h4 h5
        go_enter Try.func18, Try.ntmps18
        go_wp2
        go_ret
        exact ⟨by rw [HF2.out]; rfl, Gr.alloc (Gr.refl w) _⟩
    · have HF2 := Lib.hid (HF.out.trans (show _ = false by rw [h1, h2]; rfl))
      clear h3 h4 h5
      go_enter Try.func18, Try.ntmps18
      go_wp2
      go_ret
      exact ⟨by rw [HF2.out]; rfl, Gr.alloc (Gr.refl w) _⟩
  · have HF2 := Lib.hid (HF.out.trans (show _ = false by rw [h1]; rfl))
    clear h2 h3 h4 h5
    go_enter Try.func18, Try.ntmps18
    go_wp2
    go_ret
    exact ⟨by rw [HF2.out]; rfl, Gr.alloc (Gr.refl w) _⟩

theorem sizeL_app (a b : List Fl) : sizeL (a ++ b) = sizeL a + sizeL b := by simp [sizeL]
theorem sizeL_take {l : List Fl} {j : Nat} {f : Fl} (h : l[j]? = some f) : sizeL (l.take (j + 1)) = sizeL (l.take j) + f.data.length := by
  rw [List.take_add_one, h]
  simp [sizeL]
theorem sizeL_take_le (l : List Fl) (j : Nat) : sizeL (l.take j) ≤ sizeL l := by
  have h := congrArg sizeL (List.take_append_drop j l)
  rw [sizeL_app] at h; omega

set_option maxRecDepth 100000 in
set_option maxHeartbeats 1000000 in
theorem size_any (w : World) {S : Nat → Prop} (v : Value) (l : List Fl) (hx : IsFls S w v l) (hl : l.length ≤ 2000000) (hs : sizeL l ≤ 4000000000000) :
    Calls Try.prog 33 #[v] w fun e w' => e = .returned (.int .i64 (sizeL l : Int)) ∧ w' = w := by
  obtain ⟨a, c, rfl, hcap, hcm⟩ := hx.len
  have HX := Lib.hid hx
  clear hx
  go_enter Try.func33, Try.ntmps33
  go_wp2
  go_loop [3, 4] (fun s k => ∃ j : Nat, k = .int .i64 j ∧ j ≤ l.length ∧ s = .int .i64 (sizeL (l.take j) : Int)) (fun s k => l.length - (intOf k).toNat)
  case atStart => exact ⟨0, rfl, by omega, rfl⟩
  case round =>
    obtain ⟨j, rfl, hj, rfl⟩ := hrel
    by_cases hlt : j < l.length
    · obtain ⟨f, hf⟩ : ∃ f, l[j]? = some f := ⟨_, List.getElem?_eq_getElem hlt⟩
      obtain ⟨b, o, c', hv, _, _, _, hrows⟩ := HX.out.some (by omega)
      simp only [Value.slice.injEq, true_and] at hv
      obtain ⟨rfl, rfl⟩ := hv
      obtain ⟨bv, hr, hb⟩ := hrows j f hf
      obtain ⟨fa, fc, rfl, _, _⟩ := IsBy.len hb
      have k1 : w.cell? ⟨b, o + j * 2 + 1, none⟩ = some (.slice fa f.data.length fc) := hr 1 _ rfl
      have hst := sizeL_take hf
      have hle := sizeL_take_le l (j + 1)
      have HF := Lib.hid hf
      clear hr hb hrows hf
      go_wp2
      exact ⟨⟨j + 1, by go_num, by omega, by rw [hst]; go_num⟩, by simp [intOf]; omega⟩
    · go_wp2
      go_ret
      exact ⟨by rw [List.take_of_length_le (by omega)]; rfl, rfl⟩

/-- Not too great to be asked. -/
structure Fit (d : Dsk) : Prop where
  files : d.files.length ≤ 30
  queue : d.queue.length ≤ 60
  fb : ∀ f ∈ d.files, f.data.length ≤ 1000
  qb : ∀ o ∈ d.queue, o.data.length ≤ 1000
theorem upF_step {α : Type} {xs : List α} {P : α → Prop} {j : Nat} {x : α} (h : ∀ y ∈ xs.take j, P y) (hx : xs[j]? = some x) (hp : P x) : ∀ y ∈ xs.take (j + 1), P y := by
  intro y hy
  rw [List.take_add_one, hx] at hy
  rcases List.mem_append.1 hy with hy | hy
  · exact h y hy
  · simp at hy; subst hy; exact hp

def GreatPost (d : Dsk) (w : World) (e : Ending) (w' : World) : Prop := ∃ r : Bool, e = .returned (.bool r) ∧ (r = false → Fit d) ∧ Gr w w'
set_option maxRecDepth 100000 in
set_option maxHeartbeats 2000000 in
theorem great_any (w : World) {S : Nat → Prop} (v : Value) (d : Dsk) (hx : IsDsk S w v d) :
    Calls Try.prog 6 #[v] w (GreatPost d w) := by
  obtain ⟨fv, qv, rfl, hf, hq, hnum⟩ := hx
  obtain ⟨fa, fc, rfl, hfc, hfm⟩ := hf.len
  obtain ⟨qa, qc, rfl, hqc, hqm⟩ := hq.len
  unfold maxLen at hfm hqm
  have HF := Lib.hid hf
  have HQ := Lib.hid hq
  have HA := Lib.hid (Gr.alloc (Gr.refl w) (.cells #[.slice fa d.files.length fc, .slice qa d.queue.length qc, .int .i64 d.quota, .int .i64 d.fuse, .bool d.dead] 25))
  clear hf hq hnum
  show Calls Try.prog 6 #[.agg #[.slice fa d.files.length fc, .slice qa d.queue.length qc, .int .i64 d.quota, .int .i64 d.fuse, .bool d.dead]] w _
  go_enter Try.func6, Try.ntmps6
  go_wp2
  go_loop [3] (fun k => ∃ j : Nat, k = .int .i64 j ∧ j ≤ d.files.length ∧ j ≤ 31 ∧ ∀ f ∈ d.files.take j, f.data.length ≤ 1000) (fun k => 31 - (intOf k).toNat)
  case atStart => exact ⟨0, rfl, by omega, by omega, by simp⟩
  case round =>
    obtain ⟨j, rfl, hj, hj31, hup⟩ := hrel
    have HU := Lib.hid hup
    clear hup
    by_cases hlt : j < d.files.length
    · obtain ⟨f, hfj⟩ : ∃ f, d.files[j]? = some f := ⟨_, List.getElem?_eq_getElem hlt⟩
      obtain ⟨b, o, c', hv, _, _, _, hrows⟩ := HF.out.some (by omega)
      simp only [Value.slice.injEq, true_and] at hv
      obtain ⟨rfl, rfl⟩ := hv
      obtain ⟨bv, hr, hb⟩ := hrows j f hfj
      obtain ⟨ba, bc, rfl, _, hbm⟩ := IsBy.len hb
      unfold maxLen at hbm
      have k1 := later_cell HA.out (show w.cell? ⟨b, o + j * 2 + 1, none⟩ = some (.slice ba f.data.length bc) from hr 1 _ rfl)
      have HFJ := Lib.hid hfj
      clear hr hb hrows hfj
      by_cases h30 : j ≤ 30
      · by_cases h1000 : f.data.length ≤ 1000
        · go_wp2
          exact ⟨⟨j + 1, by go_num, by omega, by omega, upF_step HU.out HFJ.out h1000⟩, by simp [intOf]; omega⟩
        · go_wp2
          go_ret
          exact ⟨true, rfl, by simp, Gr.alloc (Gr.refl w) _⟩
      ·
        go_wp2
        go_loop [4] (fun k => ∃ i : Nat, k = .int .i64 i ∧ i ≤ d.queue.length ∧ i ≤ 61 ∧ ∀ f ∈ d.queue.take i, f.data.length ≤ 1000) (fun k => 61 - (intOf k).toNat)
        case atStart => exact ⟨0, rfl, by omega, by omega, by simp⟩
        case round =>
          obtain ⟨i, rfl, hi, hi61, hup⟩ := hrel
          have HV := Lib.hid hup
          clear hup
          by_cases hlti : i < d.queue.length
          · obtain ⟨q, hqi⟩ : ∃ q, d.queue[i]? = some q := ⟨_, List.getElem?_eq_getElem hlti⟩
            obtain ⟨b, o, c', hv, _, _, _, hrows⟩ := HQ.out.some (by omega)
            simp only [Value.slice.injEq, true_and] at hv
            obtain ⟨rfl, rfl⟩ := hv
            obtain ⟨bv, hr, hb⟩ := hrows i q hqi
            obtain ⟨ba, bc, rfl, _, hbm⟩ := IsBy.len hb
            unfold maxLen at hbm
            have k1 := later_cell HA.out (show w.cell? ⟨b, o + i * 4 + 3, none⟩ = some (.slice ba q.data.length bc) from hr 3 _ rfl)
            have HQI := Lib.hid hqi
            clear hr hb hrows hqi
            by_cases h60 : i ≤ 60
            · by_cases h1000 : q.data.length ≤ 1000
              · go_wp2
                exact ⟨⟨i + 1, by go_num, by omega, by omega, upF_step HV.out HQI.out h1000⟩, by simp [intOf]; omega⟩
              · go_wp2
                go_ret
                exact ⟨true, rfl, by simp, Gr.alloc (Gr.refl w) _⟩
            · go_wp2
              go_ret
              exact ⟨_, rfl, by intro hf; exfalso; simp at hf, Gr.alloc (Gr.refl w) _⟩
          · go_wp2
            go_ret
            exact ⟨_, rfl, by intro hf; exfalso; simp at hf, Gr.alloc (Gr.refl w) _⟩
    ·
      go_wp2
      go_loop [4] (fun k => ∃ i : Nat, k = .int .i64 i ∧ i ≤ d.queue.length ∧ i ≤ 61 ∧ ∀ f ∈ d.queue.take i, f.data.length ≤ 1000) (fun k => 61 - (intOf k).toNat)
      case atStart => exact ⟨0, rfl, by omega, by omega, by simp⟩
      case round =>
        obtain ⟨i, rfl, hi, hi61, hup⟩ := hrel
        have HV := Lib.hid hup
        clear hup
        by_cases hlti : i < d.queue.length
        · obtain ⟨q, hqi⟩ : ∃ q, d.queue[i]? = some q := ⟨_, List.getElem?_eq_getElem hlti⟩
          obtain ⟨b, o, c', hv, _, _, _, hrows⟩ := HQ.out.some (by omega)
          simp only [Value.slice.injEq, true_and] at hv
          obtain ⟨rfl, rfl⟩ := hv
          obtain ⟨bv, hr, hb⟩ := hrows i q hqi
          obtain ⟨ba, bc, rfl, _, hbm⟩ := IsBy.len hb
          unfold maxLen at hbm
          have k1 := later_cell HA.out (show w.cell? ⟨b, o + i * 4 + 3, none⟩ = some (.slice ba q.data.length bc) from hr 3 _ rfl)
          have HQI := Lib.hid hqi
          clear hr hb hrows hqi
          by_cases h60 : i ≤ 60
          · by_cases h1000 : q.data.length ≤ 1000
            · go_wp2
              exact ⟨⟨i + 1, by go_num, by omega, by omega, upF_step HV.out HQI.out h1000⟩, by simp [intOf]; omega⟩
            · go_wp2
              go_ret
              exact ⟨true, rfl, by simp, Gr.alloc (Gr.refl w) _⟩
          · have hbig : 60 < (d.queue.length : Int) := by omega
            have hs : d.files.length ≤ 30 ∨ 30 < d.files.length := by omega
            rcases hs with hs | hs
            · go_wp2
              go_ret
              exact ⟨_, rfl, by intro hf; exfalso; simp at hf, Gr.alloc (Gr.refl w) _⟩
            · go_wp2
              go_ret
              exact ⟨_, rfl, by intro hf; exfalso; simp at hf, Gr.alloc (Gr.refl w) _⟩
        · have hs : d.files.length ≤ 30 ∨ 30 < d.files.length := by omega
          rcases hs with hs | hs
          · go_wp2
            go_ret
            exact ⟨_, rfl, by intro hf; simp at hf; exact ⟨hs, by omega, by have := HU.out; rwa [List.take_of_length_le (by omega)] at this, by have := HV.out; rwa [List.take_of_length_le (by omega)] at this⟩, Gr.alloc (Gr.refl w) _⟩
          · go_wp2
            go_ret
            exact ⟨_, rfl, by intro hf; exfalso; simp at hf, Gr.alloc (Gr.refl w) _⟩
end Go.Proofs.Ytbgcjbpkgijmeaa
