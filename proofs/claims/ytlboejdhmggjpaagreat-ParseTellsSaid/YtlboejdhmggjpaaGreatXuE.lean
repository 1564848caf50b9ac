import Derived.Test.YtlboejdhmggjpaaGreatXuA
set_option linter.all false
namespace Go.Proofs.YtlboejdhmggjpaaGreat.Pp
set_option maxRecDepth 100000
set_option maxHeartbeats 16000000
open Go.RowKit Go.BigFrame Go.Proofs.YtlboejdhmggjpaaGreat
attribute [local go_sem] ML Tryz.results116 Tryz.results117 Tryz.results119 Tryz.results120 Tryz.results121 Tryz.results122 Tryz.results124 Tryz.results128 Tryz.results129 Tryz.results130 Tryz.results131 Tryz.results155 Tryz.results157 Tryz.results159 Tryz.results160 Tryz.results161 Tryz.results162 Tryz.results180 Tryz.results181 Tryz.results182 Tryz.results183 Tryz.results193 Tryz.results194 Tryz.results195 Tryz.results196 Tryz.results197 Tryz.results199 Tryz.results200 Tryz.results201 Tryz.results202 Tryz.results33 Tryz.results45 Tryz.results46 Tryz.results50 Tryz.results51 Tryz.results52 Tryz.results72 Tryz.results76 Tryz.results77 Tryz.results78 Tryz.results79 Tryz.results85 Tryz.results87 Tryz.results89 Tryz.results90
variable {E : En}{n : Nat}
theorem ah3 (hE:E.ok)(ih:∀m,m≤n→Wk E m):Wf E n 124 #[.pointer (some ⟨E.pb,0,none⟩)] gq (.array):=Wf.mk fun s w r HR HN HP HK=>by
 go_enter Tryz.func124,Tryz.ntmps124
 rw[run]at HR
 exact U
theorem VG (hE:E.ok)(ih:∀m,m≤n→Wk E m):Wf E n 129 #[.pointer (some ⟨E.pb,0,none⟩)] gq (.iy):=Wf.mk fun s w r HR HN HP HK=>by
 go_enter Tryz.func129,Tryz.ntmps129
 rw[run]at HR
 exact U
theorem abW (hE:E.ok)(ih:∀m,m≤n→Wk E m)(x:Bs)(h:Nat×Nat):Wf E n 160 #[.pointer (some ⟨E.pb,0,none⟩), .string (au x),tL h] GY (.jg x h):=Wf.mk fun s w r HR HN HP HK=>by
 simp only[tL]
 go_enter Tryz.func160,Tryz.ntmps160
 obtain⟨ba,hb⟩:∃b,w.heap.size=b:=⟨_,rfl⟩
 have Jq:=Hh hb
 clear hb
 rw[run]at HR
 obtain⟨xo,hxo⟩:∃y,au x=y:=⟨_,rfl⟩
 simp only[tb xo hxo,abf,abZ,acz]at HR
 rw[hxo]
 have XN:=Hh hxo
 clear hxo
 exact U
theorem Zu (hE:E.ok)(ih:∀m,m≤n→Wk E m)(x:Bs)(h:Nat×Nat):Wf E n 182 #[.pointer (some ⟨E.pb,0,none⟩), .string (au x),tL h] gq (.jH x h):=Wf.mk fun s w r HR HN HP HK=>by
 simp only[tL]
 go_enter Tryz.func182,Tryz.ntmps182
 obtain⟨ba,hb⟩:∃b,w.heap.size=b:=⟨_,rfl⟩
 have Jq:=Hh hb
 clear hb
 rw[run]at HR
 obtain⟨xo,hxo⟩:∃y,au x=y:=⟨_,rfl⟩
 simp only[tb xo hxo,abf,abZ,acz]at HR
 rw[hxo]
 have XN:=Hh hxo
 clear hxo
 exact U
theorem akK (hE:E.ok)(ih:∀m,m≤n→Wk E m)(t:Bool):Wf E n 90 #[.pointer (some ⟨E.pb,0,none⟩), .bool t] gq (.uQ t):=Wf.mk fun s w r HR HN HP HK=>by
 go_enter Tryz.func90,Tryz.ntmps90
 rw[run]at HR
 exact U
theorem ah4 (hE:E.ok)(ih:∀m,m≤n→Wk E m):Wf E n 159 #[.pointer (some ⟨E.pb,0,none⟩)] gq (.qA):=Wf.mk fun s w r HR HN HP HK=>by
 go_enter Tryz.func159,Tryz.ntmps159
 rw[run]at HR
 exact U
theorem Zt (hE:E.ok)(ih:∀m,m≤n→Wk E m):Wf E n 33 #[.pointer (some ⟨E.pb,0,none⟩)] gq (.j6):=Wf.mk fun s w r HR HN HP HK=>by
 go_enter Tryz.func33,Tryz.ntmps33
 rw[run]at HR
 exact U
end Go.Proofs.YtlboejdhmggjpaaGreat.Pp
