import Derived.Test.YtlboejdhmggjpaaGreatXuA
set_option linter.all false
namespace Go.Proofs.YtlboejdhmggjpaaGreat.Pp
set_option maxRecDepth 100000
set_option maxHeartbeats 16000000
open Go.RowKit Go.BigFrame Go.Proofs.YtlboejdhmggjpaaGreat
attribute [local go_sem] ML Tryz.results116 Tryz.results117 Tryz.results119 Tryz.results120 Tryz.results121 Tryz.results122 Tryz.results124 Tryz.results128 Tryz.results129 Tryz.results130 Tryz.results131 Tryz.results155 Tryz.results157 Tryz.results159 Tryz.results160 Tryz.results161 Tryz.results162 Tryz.results180 Tryz.results181 Tryz.results182 Tryz.results183 Tryz.results193 Tryz.results194 Tryz.results195 Tryz.results196 Tryz.results197 Tryz.results199 Tryz.results200 Tryz.results201 Tryz.results202 Tryz.results33 Tryz.results45 Tryz.results46 Tryz.results50 Tryz.results51 Tryz.results52 Tryz.results72 Tryz.results76 Tryz.results77 Tryz.results78 Tryz.results79 Tryz.results85 Tryz.results87 Tryz.results89 Tryz.results90
variable {E : En}{n : Nat}
theorem akM (hE:E.ok)(ih:∀m,m≤n→Wk E m):Wf E n 79 #[.pointer (some ⟨E.pb,0,none⟩)] gq (.yP):=Wf.mk fun s w r HR HN HP HK=>by
 go_enter Tryz.func79,Tryz.ntmps79
 rw[run]at HR
 exact U
theorem aej (hE:E.ok)(ih:∀m,m≤n→Wk E m):Wf E n 78 #[.pointer (some ⟨E.pb,0,none⟩)] gq (.qW):=Wf.mk fun s w r HR HN HP HK=>by
 go_enter Tryz.func78,Tryz.ntmps78
 rw[run]at HR
 exact U
theorem ah0 (hE:E.ok)(ih:∀m,m≤n→Wk E m):Wf E n 180 #[.pointer (some ⟨E.pb,0,none⟩)] gq (.unary):=Wf.mk fun s w r HR HN HP HK=>by
 go_enter Tryz.func180,Tryz.ntmps180
 rw[run]at HR
 exact U
theorem akG (hE:E.ok)(ih:∀m,m≤n→Wk E m)(v:Bool):Wf E n 193 #[.pointer (some ⟨E.pb,0,none⟩), .bool v] gq (.size v):=Wf.mk fun s w r HR HN HP HK=>by
 go_enter Tryz.func193,Tryz.ntmps193
 rw[run]at HR
 cases v<;>exact U
theorem abT (hE:E.ok)(ih:∀m,m≤n→Wk E m)(h:Nat×Nat):Wf E n 195 #[.pointer (some ⟨E.pb,0,none⟩),tL h] gq (.jf h):=Wf.mk fun s w r HR HN HP HK=>by
 simp only[tL]
 go_enter Tryz.func195,Tryz.ntmps195
 obtain⟨ba,hb⟩:∃b,w.heap.size=b:=⟨_,rfl⟩
 have Jq:=Hh hb
 clear hb
 exact U
theorem abU (hE:E.ok)(ih:∀m,m≤n→Wk E m):Wf E n 199 #[.pointer (some ⟨E.pb,0,none⟩)] gq (.uI):=Wf.mk fun s w r HR HN HP HK=>by
 go_enter Tryz.func199,Tryz.ntmps199
 rw[run]at HR
 exact U
end Go.Proofs.YtlboejdhmggjpaaGreat.Pp
