/- The seat's program fits the evaluator: function by function. -/
import Derived.Test.YtfgnjndicidpkaaAbsTop
import Derived.Test.YtfgnjndicidpkaaRows
namespace Go.Abs

def fitF (fn : Func) : Bool := match fn.body with
  | some c => codeOk c && !(fn.name == "runtime.NumGoroutine")
  | none => true

theorem fitF_spec {fn : Func} (h : fitF fn = true) (c : Code) (hb : fn.body = some c) : codeOk c = true ∧ (fn.name == "runtime.NumGoroutine") = false := by
  unfold fitF at h
  rw [hb] at h
  simp only [Bool.and_eq_true, Bool.not_eq_true'] at h
  exact h

end Go.Abs
namespace Go.Proofs.Ytfgnjndicidpkaa
open Go.Abs
theorem Abs.fit0 : fitF Try.f0 = true := by kernel_rfl
theorem Abs.fit1 : fitF Try.f1 = true := by kernel_rfl
theorem Abs.fit2 : fitF Try.f2 = true := by kernel_rfl
theorem Abs.fit3 : fitF Try.f3 = true := by kernel_rfl
theorem Abs.fit4 : fitF Try.f4 = true := by kernel_rfl
theorem Abs.fit5 : fitF Try.f5 = true := by kernel_rfl
theorem Abs.fit6 : fitF Try.f6 = true := by kernel_rfl
theorem Abs.fit7 : fitF Try.f7 = true := by kernel_rfl
theorem Abs.fit8 : fitF Try.f8 = true := by kernel_rfl
theorem Abs.fit9 : fitF Try.f9 = true := by kernel_rfl
theorem Abs.fit10 : fitF Try.f10 = true := by kernel_rfl
theorem Abs.fit11 : fitF Try.f11 = true := by kernel_rfl
theorem Abs.fit12 : fitF Try.f12 = true := by kernel_rfl
theorem Abs.fit13 : fitF Try.f13 = true := by kernel_rfl
theorem Abs.fit14 : fitF Try.f14 = true := by kernel_rfl
theorem Abs.fit15 : fitF Try.f15 = true := by kernel_rfl
theorem Abs.fit16 : fitF Try.f16 = true := by kernel_rfl
theorem Abs.fit17 : fitF Try.f17 = true := by kernel_rfl
theorem Abs.fit18 : fitF Try.f18 = true := by kernel_rfl
theorem Abs.fit19 : fitF Try.f19 = true := by kernel_rfl
theorem Abs.fit20 : fitF Try.f20 = true := by kernel_rfl
theorem Abs.fit21 : fitF Try.f21 = true := by kernel_rfl
theorem Abs.fit22 : fitF Try.f22 = true := by kernel_rfl
theorem Abs.fit23 : fitF Try.f23 = true := by kernel_rfl
theorem Abs.fit24 : fitF Try.f24 = true := by kernel_rfl
theorem Abs.fit25 : fitF Try.f25 = true := by kernel_rfl
theorem Abs.fit26 : fitF Try.f26 = true := by kernel_rfl
theorem Abs.fit27 : fitF Try.f27 = true := by kernel_rfl
theorem Abs.fit28 : fitF Try.f28 = true := by kernel_rfl
theorem Abs.fit29 : fitF Try.f29 = true := by kernel_rfl
theorem Abs.fit30 : fitF Try.f30 = true := by kernel_rfl
theorem Abs.fit31 : fitF Try.f31 = true := by kernel_rfl
theorem Abs.fit32 : fitF Try.f32 = true := by kernel_rfl
theorem Abs.fit33 : fitF Try.f33 = true := by kernel_rfl
theorem Abs.fit34 : fitF Try.f34 = true := by kernel_rfl
theorem Abs.fit35 : fitF Try.f35 = true := by kernel_rfl
theorem Abs.fit36 : fitF Try.f36 = true := by kernel_rfl
theorem Abs.fit37 : fitF Try.f37 = true := by kernel_rfl
theorem Abs.fit38 : fitF Try.f38 = true := by kernel_rfl
theorem Abs.fit39 : fitF Try.f39 = true := by kernel_rfl
theorem Abs.fit40 : fitF Try.f40 = true := by kernel_rfl
theorem Abs.fit41 : fitF Try.f41 = true := by kernel_rfl
theorem Abs.fit42 : fitF Try.f42 = true := by kernel_rfl
theorem Abs.fit43 : fitF Try.f43 = true := by kernel_rfl
theorem Abs.fit44 : fitF Try.f44 = true := by kernel_rfl
theorem Abs.fit45 : fitF Try.f45 = true := by kernel_rfl
theorem Abs.fit46 : fitF Try.f46 = true := by kernel_rfl
theorem Abs.fit47 : fitF Try.f47 = true := by kernel_rfl
theorem Abs.fit48 : fitF Try.f48 = true := by kernel_rfl
theorem Abs.fit49 : fitF Try.f49 = true := by kernel_rfl
theorem Abs.fit50 : fitF Try.f50 = true := by kernel_rfl
theorem Abs.fit51 : fitF Try.f51 = true := by kernel_rfl
theorem Abs.fit52 : fitF Try.f52 = true := by kernel_rfl
theorem Abs.fit53 : fitF Try.f53 = true := by kernel_rfl
theorem Abs.fit54 : fitF Try.f54 = true := by kernel_rfl
theorem Abs.fit55 : fitF Try.f55 = true := by kernel_rfl
theorem Abs.fit56 : fitF Try.f56 = true := by kernel_rfl
theorem Abs.fit57 : fitF Try.f57 = true := by kernel_rfl
theorem Abs.fit58 : fitF Try.f58 = true := by kernel_rfl
theorem Abs.fit59 : fitF Try.f59 = true := by kernel_rfl
theorem Abs.fit60 : fitF Try.f60 = true := by kernel_rfl
theorem Abs.fit61 : fitF Try.f61 = true := by kernel_rfl
theorem Abs.fit62 : fitF Try.f62 = true := by kernel_rfl
theorem Abs.fit63 : fitF Try.f63 = true := by kernel_rfl
theorem Abs.fit64 : fitF Try.f64 = true := by kernel_rfl
theorem Abs.fit65 : fitF Try.f65 = true := by kernel_rfl
theorem Abs.fit66 : fitF Try.f66 = true := by kernel_rfl
theorem Abs.fit67 : fitF Try.f67 = true := by kernel_rfl
theorem Abs.fit68 : fitF Try.f68 = true := by kernel_rfl
theorem Abs.fit69 : fitF Try.f69 = true := by kernel_rfl
theorem Abs.fit70 : fitF Try.f70 = true := by kernel_rfl
theorem Abs.fit71 : fitF Try.f71 = true := by kernel_rfl
theorem Abs.fit72 : fitF Try.f72 = true := by kernel_rfl
theorem Abs.fit73 : fitF Try.f73 = true := by kernel_rfl
theorem Abs.fit74 : fitF Try.f74 = true := by kernel_rfl
theorem Abs.fit75 : fitF Try.f75 = true := by kernel_rfl
theorem Abs.fit76 : fitF Try.f76 = true := by kernel_rfl
theorem Abs.fit77 : fitF Try.f77 = true := by kernel_rfl
theorem Abs.fit78 : fitF Try.f78 = true := by kernel_rfl
theorem Abs.fit79 : fitF Try.f79 = true := by kernel_rfl
theorem Abs.fit80 : fitF Try.f80 = true := by kernel_rfl
theorem Abs.fit81 : fitF Try.f81 = true := by kernel_rfl
theorem Abs.fit82 : fitF Try.f82 = true := by kernel_rfl
theorem Abs.fit83 : fitF Try.f83 = true := by kernel_rfl
theorem Abs.fit84 : fitF Try.f84 = true := by kernel_rfl
theorem Abs.fit85 : fitF Try.f85 = true := by kernel_rfl
theorem Abs.fit86 : fitF Try.f86 = true := by kernel_rfl
theorem Abs.fit87 : fitF Try.f87 = true := by kernel_rfl
theorem Abs.fit88 : fitF Try.f88 = true := by kernel_rfl
theorem Abs.fit89 : fitF Try.f89 = true := by kernel_rfl
theorem Abs.fit90 : fitF Try.f90 = true := by kernel_rfl
theorem Abs.fit91 : fitF Try.f91 = true := by kernel_rfl
theorem Abs.fit92 : fitF Try.f92 = true := by kernel_rfl
theorem Abs.fit93 : fitF Try.f93 = true := by kernel_rfl
theorem Abs.fit94 : fitF Try.f94 = true := by kernel_rfl
theorem Abs.fit95 : fitF Try.f95 = true := by kernel_rfl
theorem Abs.fit96 : fitF Try.f96 = true := by kernel_rfl
theorem Abs.fit97 : fitF Try.f97 = true := by kernel_rfl
theorem Abs.fit98 : fitF Try.f98 = true := by kernel_rfl
theorem Abs.fit99 : fitF Try.f99 = true := by kernel_rfl
theorem Abs.fit100 : fitF Try.f100 = true := by kernel_rfl
theorem Abs.fit101 : fitF Try.f101 = true := by kernel_rfl
theorem Abs.fit102 : fitF Try.f102 = true := by kernel_rfl
theorem Abs.fit103 : fitF Try.f103 = true := by kernel_rfl
theorem Abs.fit104 : fitF Try.f104 = true := by kernel_rfl
theorem Abs.fit105 : fitF Try.f105 = true := by kernel_rfl
theorem Abs.fit106 : fitF Try.f106 = true := by kernel_rfl
theorem Abs.fit107 : fitF Try.f107 = true := by kernel_rfl
theorem Abs.fit108 : fitF Try.f108 = true := by kernel_rfl
theorem Abs.fit109 : fitF Try.f109 = true := by kernel_rfl
theorem Abs.fit110 : fitF Try.f110 = true := by kernel_rfl
theorem Abs.fit111 : fitF Try.f111 = true := by kernel_rfl
theorem Abs.fit112 : fitF Try.f112 = true := by kernel_rfl
theorem Abs.size : Try.prog.funcs.size = 113 := by kernel_rfl
theorem Abs.fits0 (k : Nat) (h1 : 0 ≤ k) (h2 : k < 16) (fn : Func) (hk : Try.prog.funcs[k]? = some fn) : fitF fn = true := by
  have : k = 0 ∨ k = 1 ∨ k = 2 ∨ k = 3 ∨ k = 4 ∨ k = 5 ∨ k = 6 ∨ k = 7 ∨ k = 8 ∨ k = 9 ∨ k = 10 ∨ k = 11 ∨ k = 12 ∨ k = 13 ∨ k = 14 ∨ k = 15 := by omega
  rcases this with rfl | rfl | rfl | rfl | rfl | rfl | rfl | rfl | rfl | rfl | rfl | rfl | rfl | rfl | rfl | rfl
  · rw [Try.func0] at hk; cases hk; exact Abs.fit0
  · rw [Try.func1] at hk; cases hk; exact Abs.fit1
  · rw [Try.func2] at hk; cases hk; exact Abs.fit2
  · rw [Try.func3] at hk; cases hk; exact Abs.fit3
  · rw [Try.func4] at hk; cases hk; exact Abs.fit4
  · rw [Try.func5] at hk; cases hk; exact Abs.fit5
  · rw [Try.func6] at hk; cases hk; exact Abs.fit6
  · rw [Try.func7] at hk; cases hk; exact Abs.fit7
  · rw [Try.func8] at hk; cases hk; exact Abs.fit8
  · rw [Try.func9] at hk; cases hk; exact Abs.fit9
  · rw [Try.func10] at hk; cases hk; exact Abs.fit10
  · rw [Try.func11] at hk; cases hk; exact Abs.fit11
  · rw [Try.func12] at hk; cases hk; exact Abs.fit12
  · rw [Try.func13] at hk; cases hk; exact Abs.fit13
  · rw [Try.func14] at hk; cases hk; exact Abs.fit14
  · rw [Try.func15] at hk; cases hk; exact Abs.fit15
theorem Abs.fits16 (k : Nat) (h1 : 16 ≤ k) (h2 : k < 32) (fn : Func) (hk : Try.prog.funcs[k]? = some fn) : fitF fn = true := by
  have : k = 16 ∨ k = 17 ∨ k = 18 ∨ k = 19 ∨ k = 20 ∨ k = 21 ∨ k = 22 ∨ k = 23 ∨ k = 24 ∨ k = 25 ∨ k = 26 ∨ k = 27 ∨ k = 28 ∨ k = 29 ∨ k = 30 ∨ k = 31 := by omega
  rcases this with rfl | rfl | rfl | rfl | rfl | rfl | rfl | rfl | rfl | rfl | rfl | rfl | rfl | rfl | rfl | rfl
  · rw [Try.func16] at hk; cases hk; exact Abs.fit16
  · rw [Try.func17] at hk; cases hk; exact Abs.fit17
  · rw [Try.func18] at hk; cases hk; exact Abs.fit18
  · rw [Try.func19] at hk; cases hk; exact Abs.fit19
  · rw [Try.func20] at hk; cases hk; exact Abs.fit20
  · rw [Try.func21] at hk; cases hk; exact Abs.fit21
  · rw [Try.func22] at hk; cases hk; exact Abs.fit22
  · rw [Try.func23] at hk; cases hk; exact Abs.fit23
  · rw [Try.func24] at hk; cases hk; exact Abs.fit24
  · rw [Try.func25] at hk; cases hk; exact Abs.fit25
  · rw [Try.func26] at hk; cases hk; exact Abs.fit26
  · rw [Try.func27] at hk; cases hk; exact Abs.fit27
  · rw [Try.func28] at hk; cases hk; exact Abs.fit28
  · rw [Try.func29] at hk; cases hk; exact Abs.fit29
  · rw [Try.func30] at hk; cases hk; exact Abs.fit30
  · rw [Try.func31] at hk; cases hk; exact Abs.fit31
theorem Abs.fits32 (k : Nat) (h1 : 32 ≤ k) (h2 : k < 48) (fn : Func) (hk : Try.prog.funcs[k]? = some fn) : fitF fn = true := by
  have : k = 32 ∨ k = 33 ∨ k = 34 ∨ k = 35 ∨ k = 36 ∨ k = 37 ∨ k = 38 ∨ k = 39 ∨ k = 40 ∨ k = 41 ∨ k = 42 ∨ k = 43 ∨ k = 44 ∨ k = 45 ∨ k = 46 ∨ k = 47 := by omega
  rcases this with rfl | rfl | rfl | rfl | rfl | rfl | rfl | rfl | rfl | rfl | rfl | rfl | rfl | rfl | rfl | rfl
  · rw [Try.func32] at hk; cases hk; exact Abs.fit32
  · rw [Try.func33] at hk; cases hk; exact Abs.fit33
  · rw [Try.func34] at hk; cases hk; exact Abs.fit34
  · rw [Try.func35] at hk; cases hk; exact Abs.fit35
  · rw [Try.func36] at hk; cases hk; exact Abs.fit36
  · rw [Try.func37] at hk; cases hk; exact Abs.fit37
  · rw [Try.func38] at hk; cases hk; exact Abs.fit38
  · rw [Try.func39] at hk; cases hk; exact Abs.fit39
  · rw [Try.func40] at hk; cases hk; exact Abs.fit40
  · rw [Try.func41] at hk; cases hk; exact Abs.fit41
  · rw [Try.func42] at hk; cases hk; exact Abs.fit42
  · rw [Try.func43] at hk; cases hk; exact Abs.fit43
  · rw [Try.func44] at hk; cases hk; exact Abs.fit44
  · rw [Try.func45] at hk; cases hk; exact Abs.fit45
  · rw [Try.func46] at hk; cases hk; exact Abs.fit46
  · rw [Try.func47] at hk; cases hk; exact Abs.fit47
theorem Abs.fits48 (k : Nat) (h1 : 48 ≤ k) (h2 : k < 64) (fn : Func) (hk : Try.prog.funcs[k]? = some fn) : fitF fn = true := by
  have : k = 48 ∨ k = 49 ∨ k = 50 ∨ k = 51 ∨ k = 52 ∨ k = 53 ∨ k = 54 ∨ k = 55 ∨ k = 56 ∨ k = 57 ∨ k = 58 ∨ k = 59 ∨ k = 60 ∨ k = 61 ∨ k = 62 ∨ k = 63 := by omega
  rcases this with rfl | rfl | rfl | rfl | rfl | rfl | rfl | rfl | rfl | rfl | rfl | rfl | rfl | rfl | rfl | rfl
  · rw [Try.func48] at hk; cases hk; exact Abs.fit48
  · rw [Try.func49] at hk; cases hk; exact Abs.fit49
  · rw [Try.func50] at hk; cases hk; exact Abs.fit50
  · rw [Try.func51] at hk; cases hk; exact Abs.fit51
  · rw [Try.func52] at hk; cases hk; exact Abs.fit52
  · rw [Try.func53] at hk; cases hk; exact Abs.fit53
  · rw [Try.func54] at hk; cases hk; exact Abs.fit54
  · rw [Try.func55] at hk; cases hk; exact Abs.fit55
  · rw [Try.func56] at hk; cases hk; exact Abs.fit56
  · rw [Try.func57] at hk; cases hk; exact Abs.fit57
  · rw [Try.func58] at hk; cases hk; exact Abs.fit58
  · rw [Try.func59] at hk; cases hk; exact Abs.fit59
  · rw [Try.func60] at hk; cases hk; exact Abs.fit60
  · rw [Try.func61] at hk; cases hk; exact Abs.fit61
  · rw [Try.func62] at hk; cases hk; exact Abs.fit62
  · rw [Try.func63] at hk; cases hk; exact Abs.fit63
theorem Abs.fits64 (k : Nat) (h1 : 64 ≤ k) (h2 : k < 80) (fn : Func) (hk : Try.prog.funcs[k]? = some fn) : fitF fn = true := by
  have : k = 64 ∨ k = 65 ∨ k = 66 ∨ k = 67 ∨ k = 68 ∨ k = 69 ∨ k = 70 ∨ k = 71 ∨ k = 72 ∨ k = 73 ∨ k = 74 ∨ k = 75 ∨ k = 76 ∨ k = 77 ∨ k = 78 ∨ k = 79 := by omega
  rcases this with rfl | rfl | rfl | rfl | rfl | rfl | rfl | rfl | rfl | rfl | rfl | rfl | rfl | rfl | rfl | rfl
  · rw [Try.func64] at hk; cases hk; exact Abs.fit64
  · rw [Try.func65] at hk; cases hk; exact Abs.fit65
  · rw [Try.func66] at hk; cases hk; exact Abs.fit66
  · rw [Try.func67] at hk; cases hk; exact Abs.fit67
  · rw [Try.func68] at hk; cases hk; exact Abs.fit68
  · rw [Try.func69] at hk; cases hk; exact Abs.fit69
  · rw [Try.func70] at hk; cases hk; exact Abs.fit70
  · rw [Try.func71] at hk; cases hk; exact Abs.fit71
  · rw [Try.func72] at hk; cases hk; exact Abs.fit72
  · rw [Try.func73] at hk; cases hk; exact Abs.fit73
  · rw [Try.func74] at hk; cases hk; exact Abs.fit74
  · rw [Try.func75] at hk; cases hk; exact Abs.fit75
  · rw [Try.func76] at hk; cases hk; exact Abs.fit76
  · rw [Try.func77] at hk; cases hk; exact Abs.fit77
  · rw [Try.func78] at hk; cases hk; exact Abs.fit78
  · rw [Try.func79] at hk; cases hk; exact Abs.fit79
theorem Abs.fits80 (k : Nat) (h1 : 80 ≤ k) (h2 : k < 96) (fn : Func) (hk : Try.prog.funcs[k]? = some fn) : fitF fn = true := by
  have : k = 80 ∨ k = 81 ∨ k = 82 ∨ k = 83 ∨ k = 84 ∨ k = 85 ∨ k = 86 ∨ k = 87 ∨ k = 88 ∨ k = 89 ∨ k = 90 ∨ k = 91 ∨ k = 92 ∨ k = 93 ∨ k = 94 ∨ k = 95 := by omega
  rcases this with rfl | rfl | rfl | rfl | rfl | rfl | rfl | rfl | rfl | rfl | rfl | rfl | rfl | rfl | rfl | rfl
  · rw [Try.func80] at hk; cases hk; exact Abs.fit80
  · rw [Try.func81] at hk; cases hk; exact Abs.fit81
  · rw [Try.func82] at hk; cases hk; exact Abs.fit82
  · rw [Try.func83] at hk; cases hk; exact Abs.fit83
  · rw [Try.func84] at hk; cases hk; exact Abs.fit84
  · rw [Try.func85] at hk; cases hk; exact Abs.fit85
  · rw [Try.func86] at hk; cases hk; exact Abs.fit86
  · rw [Try.func87] at hk; cases hk; exact Abs.fit87
  · rw [Try.func88] at hk; cases hk; exact Abs.fit88
  · rw [Try.func89] at hk; cases hk; exact Abs.fit89
  · rw [Try.func90] at hk; cases hk; exact Abs.fit90
  · rw [Try.func91] at hk; cases hk; exact Abs.fit91
  · rw [Try.func92] at hk; cases hk; exact Abs.fit92
  · rw [Try.func93] at hk; cases hk; exact Abs.fit93
  · rw [Try.func94] at hk; cases hk; exact Abs.fit94
  · rw [Try.func95] at hk; cases hk; exact Abs.fit95
theorem Abs.fits96 (k : Nat) (h1 : 96 ≤ k) (h2 : k < 112) (fn : Func) (hk : Try.prog.funcs[k]? = some fn) : fitF fn = true := by
  have : k = 96 ∨ k = 97 ∨ k = 98 ∨ k = 99 ∨ k = 100 ∨ k = 101 ∨ k = 102 ∨ k = 103 ∨ k = 104 ∨ k = 105 ∨ k = 106 ∨ k = 107 ∨ k = 108 ∨ k = 109 ∨ k = 110 ∨ k = 111 := by omega
  rcases this with rfl | rfl | rfl | rfl | rfl | rfl | rfl | rfl | rfl | rfl | rfl | rfl | rfl | rfl | rfl | rfl
  · rw [Try.func96] at hk; cases hk; exact Abs.fit96
  · rw [Try.func97] at hk; cases hk; exact Abs.fit97
  · rw [Try.func98] at hk; cases hk; exact Abs.fit98
  · rw [Try.func99] at hk; cases hk; exact Abs.fit99
  · rw [Try.func100] at hk; cases hk; exact Abs.fit100
  · rw [Try.func101] at hk; cases hk; exact Abs.fit101
  · rw [Try.func102] at hk; cases hk; exact Abs.fit102
  · rw [Try.func103] at hk; cases hk; exact Abs.fit103
  · rw [Try.func104] at hk; cases hk; exact Abs.fit104
  · rw [Try.func105] at hk; cases hk; exact Abs.fit105
  · rw [Try.func106] at hk; cases hk; exact Abs.fit106
  · rw [Try.func107] at hk; cases hk; exact Abs.fit107
  · rw [Try.func108] at hk; cases hk; exact Abs.fit108
  · rw [Try.func109] at hk; cases hk; exact Abs.fit109
  · rw [Try.func110] at hk; cases hk; exact Abs.fit110
  · rw [Try.func111] at hk; cases hk; exact Abs.fit111
theorem Abs.fits112 (k : Nat) (h1 : 112 ≤ k) (h2 : k < 113) (fn : Func) (hk : Try.prog.funcs[k]? = some fn) : fitF fn = true := by
  have : k = 112 := by omega
  rcases this with rfl
  · rw [Try.func112] at hk; cases hk; exact Abs.fit112
theorem Abs.fit : Go.Abs.Fit Try.prog := ⟨by kernel_rfl, fun k fn c hk hb => fitF_spec (by
  have hk2 : k < 113 := by have := (Array.getElem?_eq_some_iff.1 hk).1; rw [Abs.size] at this; exact this
  by_cases h0 : k < 16
  · exact Abs.fits0 k (by omega) h0 fn hk
  by_cases h16 : k < 32
  · exact Abs.fits16 k (by omega) h16 fn hk
  by_cases h32 : k < 48
  · exact Abs.fits32 k (by omega) h32 fn hk
  by_cases h48 : k < 64
  · exact Abs.fits48 k (by omega) h48 fn hk
  by_cases h64 : k < 80
  · exact Abs.fits64 k (by omega) h64 fn hk
  by_cases h80 : k < 96
  · exact Abs.fits80 k (by omega) h80 fn hk
  by_cases h96 : k < 112
  · exact Abs.fits96 k (by omega) h96 fn hk
  exact Abs.fits112 k (by omega) hk2 fn hk
  ) c hb⟩
end Go.Proofs.Ytfgnjndicidpkaa
