import Derived.Test.YtlboejdhmggjpaaGreatXuA
set_option linter.all false
namespace Go.Proofs.YtlboejdhmggjpaaGreat.Pp
set_option maxRecDepth 100000
set_option maxHeartbeats 16000000
open Go.RowKit Go.BigFrame Go.Proofs.YtlboejdhmggjpaaGreat
attribute [local go_sem] ML Tryz.results116 Tryz.results117 Tryz.results119 Tryz.results120 Tryz.results121 Tryz.results122 Tryz.results124 Tryz.results128 Tryz.results129 Tryz.results130 Tryz.results131 Tryz.results155 Tryz.results157 Tryz.results159 Tryz.results160 Tryz.results161 Tryz.results162 Tryz.results180 Tryz.results181 Tryz.results182 Tryz.results183 Tryz.results193 Tryz.results194 Tryz.results195 Tryz.results196 Tryz.results197 Tryz.results199 Tryz.results200 Tryz.results201 Tryz.results202 Tryz.results33 Tryz.results45 Tryz.results46 Tryz.results50 Tryz.results51 Tryz.results52 Tryz.results72 Tryz.results76 Tryz.results77 Tryz.results78 Tryz.results79 Tryz.results85 Tryz.results87 Tryz.results89 Tryz.results90
variable {E : En}{n : Nat}
theorem akE (hE:E.ok)(ih:∀m,m≤n→Wk E m):Wf E n 117 #[.pointer (some ⟨E.pb,0,none⟩)] gq (.o9):=Wf.mk fun s w r HR HN HP HK=>by
 go_enter Tryz.func117,Tryz.ntmps117
 rw[run]at HR
 exact U
theorem aef (hE:E.ok)(ih:∀m,m≤n→Wk E m):Wf E n 120 #[.pointer (some ⟨E.pb,0,none⟩)] gq (.mW):=Wf.mk fun s w r HR HN HP HK=>by
 go_enter Tryz.func120,Tryz.ntmps120
 rw[run]at HR
 exact U
theorem VF (hE:E.ok)(ih:∀m,m≤n→Wk E m):Wf E n 196 #[.pointer (some ⟨E.pb,0,none⟩)] gq (.iP):=Wf.mk fun s w r HR HN HP HK=>by
 go_enter Tryz.func196,Tryz.ntmps196
 rw[run]at HR
 exact U
theorem Qx (hE:E.ok)(ih:∀m,m≤n→Wk E m):Wf E n 89 #[.pointer (some ⟨E.pb,0,none⟩)] gq (.jv):=Wf.mk fun s w r HR HN HP HK=>by
 go_enter Tryz.func89,Tryz.ntmps89
 rw[run]at HR
 exact U
theorem akF (hE:E.ok)(ih:∀m,m≤n→Wk E m):Wf E n 155 #[.pointer (some ⟨E.pb,0,none⟩)] GY (.cast):=Wf.mk fun s w r HR HN HP HK=>by
 go_enter Tryz.func155,Tryz.ntmps155
 rw[run]at HR
 exact U
theorem akH (hE:E.ok)(ih:∀m,m≤n→Wk E m):Wf E n 194 #[.pointer (some ⟨E.pb,0,none⟩)] gq (.jT):=Wf.mk fun s w r HR HN HP HK=>by
 go_enter Tryz.func194,Tryz.ntmps194
 rw[run]at HR
 exact U
theorem abS (hE:E.ok)(ih:∀m,m≤n→Wk E m)(h:Nat×Nat):Wf E n 181 #[.pointer (some ⟨E.pb,0,none⟩),tL h] gq (.jG h):=Wf.mk fun s w r HR HN HP HK=>by
 simp only[tL]
 go_enter Tryz.func181,Tryz.ntmps181
 obtain⟨ba,hb⟩:∃b,w.heap.size=b:=⟨_,rfl⟩
 have Jq:=Hh hb
 clear hb
 rw[run]at HR
 exact U
theorem aee (hE:E.ok)(ih:∀m,m≤n→Wk E m):Wf E n 72 #[.pointer (some ⟨E.pb,0,none⟩)] GY (.dx):=Wf.mk fun s w r HR HN HP HK=>by
 go_enter Tryz.func72,Tryz.ntmps72
 rw[run]at HR
 exact U
theorem aed (hE:E.ok)(ih:∀m,m≤n→Wk E m):Wf E n 131 #[.pointer (some ⟨E.pb,0,none⟩)] gq (.assign):=Wf.mk fun s w r HR HN HP HK=>by
 go_enter Tryz.func131,Tryz.ntmps131
 rw[run]at HR
 exact U
theorem akI (hE:E.ok)(ih:∀m,m≤n→Wk E m):Wf E n 200 #[.pointer (some ⟨E.pb,0,none⟩)] gq (.call):=Wf.mk fun s w r HR HN HP HK=>by
 go_enter Tryz.func200,Tryz.ntmps200
 rw[run]at HR
 exact U
theorem abV (hE:E.ok)(ih:∀m,m≤n→Wk E m):Wf E n 201 #[.pointer (some ⟨E.pb,0,none⟩)] gq (.zR):=Wf.mk fun s w r HR HN HP HK=>by
 go_enter Tryz.func201,Tryz.ntmps201
 rw[run]at HR
 exact U
theorem ah1 (hE:E.ok)(ih:∀m,m≤n→Wk E m):Wf E n 202 #[.pointer (some ⟨E.pb,0,none⟩)] gq (.wJ):=Wf.mk fun s w r HR HN HP HK=>by
 go_enter Tryz.func202,Tryz.ntmps202
 rw[run]at HR
 exact U
attribute [local go_sem] ML Tryz.results116 Tryz.results117 Tryz.results119 Tryz.results120 Tryz.results121 Tryz.results122 Tryz.results124 Tryz.results128 Tryz.results129 Tryz.results130 Tryz.results131 Tryz.results155 Tryz.results157 Tryz.results159 Tryz.results160 Tryz.results161 Tryz.results162 Tryz.results180 Tryz.results181 Tryz.results182 Tryz.results183 Tryz.results193 Tryz.results194 Tryz.results195 Tryz.results196 Tryz.results197 Tryz.results199 Tryz.results200 Tryz.results201 Tryz.results202 Tryz.results33 Tryz.results45 Tryz.results46 Tryz.results50 Tryz.results51 Tryz.results52 Tryz.results72 Tryz.results76 Tryz.results77 Tryz.results78 Tryz.results79 Tryz.results85 Tryz.results87 Tryz.results89 Tryz.results90
theorem aeg (hE:E.ok)(ih:∀m,m≤n→Wk E m):Wf E n 130 #[.pointer (some ⟨E.pb,0,none⟩)] gq (.oO):=Wf.mk fun s w r HR HN HP HK=>by
 go_enter Tryz.func130,Tryz.ntmps130
 rw[run]at HR
 exact U
theorem ah2 (hE:E.ok)(ih:∀m,m≤n→Wk E m):Wf E n 183 #[.pointer (some ⟨E.pb,0,none⟩)] GY (.pg):=Wf.mk fun s w r HR HN HP HK=>by
 go_enter Tryz.func183,Tryz.ntmps183
 rw[run]at HR
 exact U
theorem akJ (hE:E.ok)(ih:∀m,m≤n→Wk E m):Wf E n 162 #[.pointer (some ⟨E.pb,0,none⟩)] gq (.nz):=Wf.mk fun s w r HR HN HP HK=>by
 go_enter Tryz.func162,Tryz.ntmps162
 rw[run]at HR
 exact U
theorem aei (hE:E.ok)(ih:∀m,m≤n→Wk E m):Wf E n 77 #[.pointer (some ⟨E.pb,0,none⟩)] gq (.atomic):=Wf.mk fun s w r HR HN HP HK=>by
 go_enter Tryz.func77,Tryz.ntmps77
 rw[run]at HR
 exact U
theorem ah6 (hE:E.ok)(ih:∀m,m≤n→Wk E m)(x:Bs):Wf E n 161 #[.pointer (some ⟨E.pb,0,none⟩), .string (au x)] gq (.ik x):=Wf.mk fun s w r HR HN HP HK=>by
 go_enter Tryz.func161,Tryz.ntmps161
 rw[run]at HR
 exact U
theorem VA (hE:E.ok)(ih:∀m,m≤n→Wk E m)(t:Bool):Wf E n 52 #[.pointer (some ⟨E.pb,0,none⟩), .bool t] gq (.jS t):=Wf.mk fun s w r HR HN HP HK=>by
 go_enter Tryz.func52,Tryz.ntmps52
 exact U
theorem Ua (hE:E.ok)(ih:∀m,m≤n→Wk E m)(h:Nat×Nat):Wf E n 51 #[.pointer (some ⟨E.pb,0,none⟩),tL h] gq (.iG h):=Wf.mk fun s w r HR HN HP HK=>by
 simp only[tL]
 go_enter Tryz.func51,Tryz.ntmps51
 obtain⟨ba,hb⟩:∃b,w.heap.size=b:=⟨_,rfl⟩
 have Jq:=Hh hb
 clear hb
 rw[run]at HR
 exact U
theorem aek (hE:E.ok)(ih:∀m,m≤n→Wk E m):Wf E n 121 #[.pointer (some ⟨E.pb,0,none⟩)] gq (.nP):=Wf.mk fun s w r HR HN HP HK=>by
 go_enter Tryz.func121,Tryz.ntmps121
 rw[run]at HR
 exact U
theorem Qy (hE:E.ok)(ih:∀m,m≤n→Wk E m):Wf E n 128 #[.pointer (some ⟨E.pb,0,none⟩)] gq (.iw):=Wf.mk fun s w r HR HN HP HK=>by
 go_enter Tryz.func128,Tryz.ntmps128
 rw[run]at HR
 exact U
theorem aeh (hE:E.ok)(ih:∀m,m≤n→Wk E m):Wf E n 45 #[.pointer (some ⟨E.pb,0,none⟩)] gq (.vH):=Wf.mk fun s w r HR HN HP HK=>by
 go_enter Tryz.func45,Tryz.ntmps45
 rw[run]at HR
 exact U
theorem ah5 (hE:E.ok)(ih:∀m,m≤n→Wk E m):Wf E n 87 #[.pointer (some ⟨E.pb,0,none⟩)] gq (.wK):=Wf.mk fun s w r HR HN HP HK=>by
 go_enter Tryz.func87,Tryz.ntmps87
 rw[run]at HR
 exact U
theorem ah8 (hE:E.ok)(ih:∀m,m≤n→Wk E m):Wf E n 157 #[.pointer (some ⟨E.pb,0,none⟩)] gq (.field):=Wf.mk fun s w r HR HN HP HK=>by
 go_enter Tryz.func157,Tryz.ntmps157
 rw[run]at HR
 exact U
theorem ah7 (hE:E.ok)(ih:∀m,m≤n→Wk E m):Wf E n 76 #[.pointer (some ⟨E.pb,0,none⟩)] gq (.wL):=Wf.mk fun s w r HR HN HP HK=>by
 go_enter Tryz.func76,Tryz.ntmps76
 rw[run]at HR
 exact U
theorem Zv (hE:E.ok)(ih:∀m,m≤n→Wk E m):Wf E n 119 #[.pointer (some ⟨E.pb,0,none⟩)] gq (.kg):=Wf.mk fun s w r HR HN HP HK=>by
 go_enter Tryz.func119,Tryz.ntmps119
 rw[run]at HR
 exact U
theorem akL (hE:E.ok)(ih:∀m,m≤n→Wk E m):Wf E n 197 #[.pointer (some ⟨E.pb,0,none⟩)] gq (.part):=Wf.mk fun s w r HR HN HP HK=>by
 go_enter Tryz.func197,Tryz.ntmps197
 rw[run]at HR
 exact U
theorem Ub (hE:E.ok)(ih:∀m,m≤n→Wk E m):Wf E n 122 #[.pointer (some ⟨E.pb,0,none⟩)] gq (.ma):=Wf.mk fun s w r HR HN HP HK=>by
 go_enter Tryz.func122,Tryz.ntmps122
 rw[run]at HR
 exact U
end Go.Proofs.YtlboejdhmggjpaaGreat.Pp
